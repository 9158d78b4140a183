/-
  The program's list of the shells of a map, sorted.
-/
import Derived.Test.YtgemocbpfbdnmaaShelf
import Derived.Test.YtgemocbpfbdnmaaSortSh
import Derived.Test.YtgemocbpfbdnmaaGdPlain
import Derived.Test.YtgemocbpfbdnmaaDrawConfs
import Derived.Maps.RangeWalk
namespace Go.Proofs.Ytgemocbpfbdnmaa
open Go.ChangeShapes Go.WideShapes Go.ChangeAt Go.RowKit Go.Deep Go.Joins
open Go.Shelf Go.Lib
set_option linter.unusedVariables false
set_option maxRecDepth 100000

theorem shTy : MapTy Try.prog 49 52 3 := {
  und := Try.underlying49
  law := deep_law_laid laidOut (m := 2) (by omega) (of_decide_eq_true (by kernel_rfl)) (by kernel_rfl) (by kernel_rfl)
  key := key_two Try.underlying52 Try.underlying3 Try.underlying3 rfl rfl (by kernel_rfl) (by kernel_rfl) (by kernel_rfl) (by decide) (by decide) (by kernel_rfl) (of_decide_eq_true (by kernel_rfl))
  zero := fun u => by kernel_rfl }

theorem own_refl (w : World) (g : Nat) : w.grownBy w (some g) := ⟨rfl, rfl, rfl, Nat.le_refl _, fun _ _ _ => rfl⟩
theorem bel_own {w a b : World} {g : Nat} (h : Below w.heap.size w a) (hB : w.heap.size ≤ g) (hg : a.grownBy b (some g)) : Below w.heap.size w b :=
  h.grown hg h.size (fun k e => by injection e with e; subst e; exact hB)
theorem MapL.nodup {w : World} {b : Nat} {F : List (Pr × Int)} (h : MapL w b F) : (F.map (·.1)).Nodup := by
  obtain ⟨es, clock, _, hs, he, _⟩ := h
  exact keys_nodup hs he

/-- the sort, at shells of the call's own -/
theorem sort_sh (v : Value) (l : List Sh) (w : World) (B : Nat) (h : OwnSh w B v l) (hne : l.length ≠ 0) (hl : l.length ≤ 16777216) :
    Calls Try.prog 47 #[v, .func (.func 40) #[] #[]] w fun e w' =>
      e = .returned (.tuple #[]) ∧ ∃ d : Array Sh, d.toList.Perm l ∧ Go.Sort.SortedIn (ltOf cmpS) 0 d.size d ∧ OwnSh w' B v d.toList ∧ Below B w w' := by
  rcases h.free with ⟨_, e⟩ | ⟨g, cap, cur, hb, hB, hv, hlc, hcm, ho, hsz⟩
  · exact absurd e hne
  obtain ⟨hH, hblk⟩ := own_holds h hv
  have eg : ∀ args w, (callFunc 40 args).run Try.prog w = .ok (.enter 40 args) w := enters_of Try.func40 (by kernel_rfl) rfl
  have hcon := AnyQ.slices_SortFunc Try.sortSh 3 Try.isAgg29 Try.sizeOf29 shCells (fun _ => rfl) (fun x v hv => by simp [shCells] at hv; rcases hv with rfl | rfl | rfl <;> rfl) cmpS swoS 40 #[] g 0 cap l.toArray w eg
    (fun m os dk hs x y => (cmp_fwd x y _).mono fun e w' ⟨he, hbl, hd⟩ => ⟨he, fwd_grown hbl hd⟩) hH hblk (by simp; omega)
  change Calls Try.prog 47 _ _ _ at hcon
  rw [hv]
  refine hcon.mono ?_
  rintro e w' ⟨he, d, n, os, hp, hs, rfl⟩
  have hsz' : d.size = l.length := by simpa using hp.1
  have hperm := hp.2.2
  simp only [List.size_toArray] at hperm hs
  have e1 : d.extract 0 l.length = d := by rw [← hsz']; simp
  have e2 : l.toArray.extract 0 l.length = l.toArray := by simp
  rw [e1, e2] at hperm
  obtain ⟨o1, o2⟩ := sort_own h hv d hsz' n os
  rw [hv] at o1
  exact ⟨he, d, hperm, by rw [hsz']; exact hs, o1, o2⟩

/-- what a call that lists the shells of a map leaves -/
def MapEnd (F : List (Pr × Int)) (w : World) (e : Ending) (w' : World) : Prop := ∃ v r, e = .returned v ∧ OwnSh w' w.heap.size v r ∧ Below w.heap.size w w' ∧ Gd r (getF F) ∧ r.length ≤ F.length

theorem own_far {w : World} {B r : Nat} {v : Value} {l : List Sh} (h : OwnSh w B v l) (hr : r < B) : v.ownBlock = none ∨ v.ownBlock ≠ some r := by
  rcases h.free with ⟨e, _⟩ | ⟨g, cap, cur, hb, hB, hv, _⟩
  · left; rw [e]; rfl
  · right; rw [hb]; intro e; injection e with e; omega

theorem own_ne {w : World} {B r : Nat} {v : Value} {l : List Sh} (h : OwnSh w B v l) (hr : r < B) : some r ≠ v.ownBlock := by
  rcases own_far h hr with e | e
  · rw [e]; simp
  · exact fun k => e k.symm
theorem nz_one (x y z : Int) : nz [((x, y), z)] = if z != 0 then [(x, y, z)] else [] := by
  unfold nz
  by_cases h : z = 0 <;> simp [h]

set_option maxHeartbeats 4000000 in
theorem impl_conf (b : Nat) (F : List (Pr × Int)) (w : World) (hM : MapL w b F) (hF : F.length ≤ 1048600) (hne : (nz F).length ≠ 0) :
    Calls Try.prog 34 #[.map (some b)] w (MapEnd F w) := by
  have hlt := hM.lt
  have hnd := hM.nodup
  obtain ⟨B, hB⟩ : ∃ B, w.heap.size = B := ⟨_, rfl⟩
  have hltB : b < B := by omega
  have HM := Lib.hid hM
  clear hM
  go_enter Try.func34, Try.ntmps34
  go_wp2_with (at_range; refine range_two shTy rfl (.tmp 6) rfl b F rfl HM.out ?_; intro w0 hIt hb0)
  rw [hB]
  rw [hB] at hIt
  have hs0 := hIt.lt.2
  go_frame
  go_loopg [3] F.length (fun gk v wr => ∃ D L, gk = L.length ∧ (D ++ L).Perm F ∧ OwnSh wr (B + 1) v (nz D) ∧ MapIt wr b B F L ∧ Below w.heap.size w wr)
  case atStart => exact ⟨[], F, rfl, List.Perm.refl _, OwnSh.nil _ _, hIt, hb0⟩
  case round =>
    clear hIt hb0 hs0
    obtain ⟨D, L, rfl, hp, hown, hit, hbel⟩ := hrel
    have hfl := hp.length_eq
    rw [List.length_append] at hfl
    have hnl := nz_le D
    have hsz := hit.lt.2
    go_wp2_with (at_next; refine next_two rfl (.tmp 7) rfl b B F L rfl hit ?_ ?_)
    · intro hL
      subst hL
      rw [List.append_nil] at hp
      have hpn := nz_perm hp
      have hnn : (nz D).length ≠ 0 := by rw [hpn.length_eq]; exact hne
      have HP := Lib.hid hpn
      have HL := Lib.hid (show (nz D).length ≤ F.length by omega)
      generalize nz D = N at *
      clear hp hpn hit
      go_wp2_with (go_at_call 47; refine (sort_sh _ N _ (B + 1) hown hnn (by omega)).mono ?_; rintro e w2 ⟨rfl, d, hd1, hd2, hd3, hd4⟩)
      go_ret
      have hdp := hd1.trans HP.out
      exact ⟨u3, d.toList, rfl, hd3.less (by omega), hbel.trans (hd4.mono (by omega)), Gd.of_perm hnd (sorted_of hnd ltS hd2 hdp) hdp, by rw [hd1.length_eq]; exact HL.out⟩
    · intro x y z L' w1 hpl hit1 hg1 hs1 hen
      have hpd : ((D ++ [((x, y), z)]) ++ L').Perm F := by
        rw [List.append_assoc]
        exact (List.Perm.append_left D hpl.symm).trans hp
      have hll := hpl.length_eq
      rw [List.length_cons] at hll
      have hn2 := nz_append D [((x, y), z)]
      rw [nz_one] at hn2
      have hown1 := hown.kept hg1 (own_far hown (by omega))
      have hbel1 := bel_own hbel (by omega) hg1
      clear hown hit hpl hp
      have HPD := Lib.hid hpd
      have HLL := Lib.hid hll
      clear hpd hll
      cases hz : z != 0
      · rw [hz, if_neg (by simp), List.append_nil] at hn2
        have HN := Lib.hid hn2
        clear hn2
        go_wp2_with fail
        go_roundg L'.length
        case measure => have := HLL.out; omega
        case rel => exact ⟨_, L', rfl, HPD.out, by rw [HN.out]; exact hown1.alloc _, hit1.alloc _, (by repeat (first | exact Below.refl _ _ | assumption | refine bel_drewN ?_ _ | refine bel_drew ?_ | refine bel_alloc ?_ _ | refine bel_set ?_ (by simp; omega) _ | refine bel_set ?_ (by simp) _ | refine bel_trans ?_ (by assumption)))⟩
      · rw [hz, if_pos rfl] at hn2
        have HN := Lib.hid hn2
        clear hn2
        have hlN : (nz D).length ≤ 16777216 := by omega
        generalize nz D = N at *
        go_wp2_with (at_builtin; refine app_shell (B + 1) rfl 15 22 rfl _ N rfl ((hown1.alloc _).alloc _) (by simp; omega) _ (x, y, z) rfl (own_here (by first | rfl | (simp; done) | (simp; omega))) hlN ?_; intro v' w2 hown2 hgr _)
        have hb2 : Below w.heap.size w w2 := (bel_alloc (bel_alloc hbel1 _) _).grown hgr (by have := hbel1.size; simp; omega) (fun k hk => by have := (World.ownsRow.lt hown1 k hk).1; omega)
        have hit2 := ((hit1.alloc _).alloc _).kept hgr (own_ne hown1 (by omega)) (own_ne hown1 (by omega))
        clear hgr hown1 hit1
        go_wp2_with fail
        go_roundg L'.length
        case measure => have := HLL.out; omega
        case rel => exact ⟨_, L', rfl, HPD.out, by rw [HN.out]; exact hown2, hit2, hb2⟩

end Go.Proofs.Ytgemocbpfbdnmaa
