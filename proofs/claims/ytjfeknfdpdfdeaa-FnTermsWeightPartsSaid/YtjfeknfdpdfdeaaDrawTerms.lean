/-
  The draw of a list of terms.
-/
import Derived.Test.YtjfeknfdpdfdeaaDrawShell
import Derived.Test.YtjfeknfdpdfdeaaTerms
namespace Go.Proofs.Ytjfeknfdpdfdeaa
open Go.ChangeShapes Go.WideShapes Go.ChangeAt Go.RowKit Go.Deep Go.Joins
set_option linter.unusedVariables false

/-- what a draw of terms leaves -/
def TermsDraw (w : World) (e : Ending) (w' : World) : Prop := ∃ v l, e = .returned v ∧ l.length ≤ 5 ∧ OwnP 34 w' w.heap.size v l ∧ Below w.heap.size w w'
theorem OwnP.lt {t : TypeId} {w : World} {B : Nat} {v : Value} {l : List Pr} (h : OwnP t w B v l) : ∀ k, v.ownBlock = some k → B ≤ k ∧ k < w.heap.size := World.ownsRow.lt h

set_option maxHeartbeats 2000000 in
theorem draw_terms (A : Option Addr) (n c : Nat) (w : World) (h2 : n ≤ c) (hm : c ≤ maxLen) (h5 : Bytes w w.heap.size A n) :
    Calls Try.prog 10 #[.slice A n c] w (TermsDraw w) := by
  go_enter Try.func10, Try.ntmps10
  go_wp2_with fail
  refine (open_any _ _ _ _ h2 hm h5).mono ?_
  rintro e w1 ⟨g, rfl, hr1, hb1⟩
  go_wp2_with fail
  refine Calls.mono (R := fun e w2 => ∃ v l, e = .returned v ∧ l.length ≤ 5 ∧ OwnP 34 w2 w1.heap.size v l ∧ Below w.heap.size w w2) ?_ ?_
  · have hgl := hr1.lt
    have hBg := hr1.1
    go_enter Try.func17, Try.ntmps17
    go_wp2_with fail
    have O0 := OwnP.empty (t := 34) w1 w1.heap.size (Nat.le_refl _)
    have L1 := bel_alloc hb1 (.cells #[] 34)
    refine (pick_any _ g 0 _ (by omega) _ (hr1.below (bel_alloc (Below.refl _ _) _))).mono ?_
    rintro e w2 ⟨m, rfl, hm0, hm1, _, hr2, hg2⟩
    have hm1 := hm1 (by omega)
    have O2 := O0.pick hg2 hgl
    have L2 := bel_only L1 hBg hg2
    have hz2 : w1.heap.size ≤ w2.heap.size := by have := hg2.size; simp at this; omega
    obtain ⟨m, rfl⟩ := Int.eq_ofNat_of_zero_le hm0
    clear O0 L1 hg2 hm0
    go_wp2_with fail
    go_loopg [3, 5] m (fun gk v0 i wr => ∃ (k : Nat) (v : Value) (l : List Pr), v = v0 ∧ gk = m - k ∧ k ≤ m ∧ i = .int .i64 k ∧ l.length = k ∧ OwnP 34 wr w1.heap.size v l ∧ Rdr wr w.heap.size g (1 + 4 * k) ∧ Below w.heap.size w wr ∧ w1.heap.size ≤ wr.heap.size)
    case atStart => exact ⟨0, _, [], rfl, rfl, by omega, rfl, rfl, O2, hr2.more (by omega), L2, hz2⟩
    case round =>
      clear O2 hr2 L2 hz2
      obtain ⟨k, v, l, rfl, rfl, hk, rfl, hlk, hown, hrd, hbel, hz⟩ := hrel
      by_cases hlt : k < m
      · have hlt' : (k : Int) < (m : Int) := by omega
        have HLK := Lib.hid hlk
        clear hlk
        go_wp2_with fail
        refine (l92_term _ g (1 + 4 * k) (by omega) _ hrd).mono ?_
        rintro e w3 ⟨a, b, rfl, hab, hr3, hg3⟩
        have hown := hown.pick hg3 hgl
        have L3 := bel_only hbel hBg hg3
        have hz3 := Nat.le_trans hz hg3.size
        clear hrd hg3 hbel hz
        go_wp2_with (at_builtin; refine app_pair Try.underlying25 termInfo w1.heap.size rfl 14 17 rfl _ l rfl (hown.alloc _) (by simp; omega) _ (a, b) rfl (own_here' (by first | rfl | simp)) (by have := HLK.out; omega) ?_; intro v' w4 hown' hgr _)
        have hlt4 := OwnP.lt hown
        have L4 : Below w.heap.size w w4 := (bel_alloc L3 _).grown hgr (by simp; omega) (fun k hk => by have := hlt4 k hk; omega)
        have hr4 : Rdr w4 w.heap.size g (1 + 4 * k + 4) := (hr3.below (bel_alloc (Below.refl _ _) _)).grown hgr (fun j e => by have := hlt4 j e; omega)
        have hz4 : w1.heap.size ≤ w4.heap.size := by have := hgr.size; simp at this; omega
        clear hgr hown hr3 L3 hlt4
        go_wp2_with fail
        go_roundg (m - (k + 1))
        case measure => omega
        case rel => exact ⟨k + 1, _, _, rfl, rfl, by omega, by go_num, by have := HLK.out; simp; omega, hown', hr4.more (by omega), L4, hz4⟩
      · have hkm : k = m := by omega
        have HKM := Lib.hid hkm
        have HLK := Lib.hid hlk
        clear hkm hlk
        go_wp2_with fail
        go_ret
        exact ⟨_, l, rfl, by have := HLK.out; have := HKM.out; omega, hown, hbel⟩
  · rintro e w2 ⟨v, l, rfl, hl, ho, L⟩
    have hz := hb1.size
    have ho := ho.less hz
    go_wp2_with fail
    go_ret
    exact ⟨v, l, rfl, hl, ho, L⟩

/-- the address of the elements from an index on, as Go has it -/
def partP (A : Option Addr) (cap i : Nat) : Option Addr := if cap = i then A else A.map (·.add (i * 2))
theorem tmSize (w : World) : (sizeOf (Try.prog.elem 25)).run Try.prog w = .ok 2 w := by kernel_rfl
theorem tmUnd : Try.prog.underlying 25 = some (.slice (Try.prog.elem 25)) := by kernel_rfl
theorem run_partP (w : World) (A : Option Addr) (n cap : Nat) (k : Int) (h0 : 0 ≤ k) (h1 : k ≤ n) :
    (Instr.slice 25 (.slice A n cap) (some (.int .i64 k)) none none).run Try.prog w = .ok (.slice (partP A cap k.toNat) (n - k.toNat) (cap - k.toNat)) w := by
  rw [run_slice_l w _ _ n cap tmUnd .i64 k h0 h1, tmSize]
  simp [Result.andThen, sliced, partP]
theorem run_headP (w : World) (A : Option Addr) (n cap : Nat) (k : Int) (h0 : 0 ≤ k) (h1 : k ≤ cap) :
    (Instr.slice 25 (.slice A n cap) none (some (.int .i64 k)) none).run Try.prog w = .ok (.slice A k.toNat cap) w := by
  rw [run_slice_h w _ _ n cap tmUnd .i64 k h0 h1, tmSize]
  simp only [Result.andThen, sliced, Nat.sub_zero, Nat.zero_mul]
  congr 2
  cases A with
  | none => simp
  | some a => simp [Addr.add]
theorem PrAt.take_ {w : World} {B : Nat} {A : Option Addr} {n c : Nat} {l : List Pr} (h : PrAt w B (.slice A n c) l) (hn : n = l.length) {k : Nat} (hk : k ≤ l.length) : PrAt w B (.slice A k c) (l.take k) := by
  obtain ⟨A', c', hv, h1, h2, h3⟩ := h
  injection hv with hA _ hc
  subst hA hc
  have e : (l.take k).length = k := by rw [List.length_take]; omega
  refine ⟨A, c, by rw [e], by omega, h2, fun hl => ?_⟩
  obtain ⟨b, off, ha, hb, hc⟩ := h3 (by omega)
  refine ⟨b, off, ha, hb, fun i s hs => hc i s ?_⟩
  have hi : i < k := by have := (List.getElem?_eq_some_iff.1 hs).1; omega
  rw [← hs, List.getElem?_take_of_lt hi]
theorem PrAt.drop_ {w : World} {B : Nat} {A : Option Addr} {n c : Nat} {l : List Pr} (h : PrAt w B (.slice A n c) l) (hn : n = l.length) {k : Nat} (hk : k ≤ l.length) : PrAt w B (.slice (partP A c k) (l.length - k) (c - k)) (l.drop k) := by
  obtain ⟨A', c', hv, h1, h2, h3⟩ := h
  injection hv with hA _ hc
  subst hA hc
  have e : (l.drop k).length = l.length - k := List.length_drop
  refine ⟨_, c - k, by rw [e], by omega, by omega, fun hl => ?_⟩
  obtain ⟨b, off, ha, hb, hc⟩ := h3 (by omega)
  subst ha
  have hp : partP (some ⟨b, off, none⟩) c k = some ⟨b, off + k * 2, none⟩ := by
    unfold partP
    rw [if_neg (by omega)]
    simp only [Option.map_some, Addr.add]
    split
    · rename_i e; rw [e]; rfl
    · rfl
  refine ⟨b, off + k * 2, hp, hb, fun i s hs => ?_⟩
  have hi : k + i < l.length := by have := (List.getElem?_eq_some_iff.1 hs).1; omega
  have hs : l[k + i]? = some s := by rw [← hs, List.getElem?_drop]
  obtain ⟨c0, c1⟩ := hc (k + i) s hs
  rw [show off + k * 2 + i * 2 = off + (k + i) * 2 by omega]
  exact ⟨c0, c1⟩
theorem impl_tswz {v : Value} {l : List Pr} {w : World} (hv : PrAt w w.heap.size v l) (hn : l.length ≤ 1048576) {z : Int} (hz : tswB l = z) : Calls Try.prog 8 #[v] w fun e w' => e = .returned (.int .i64 z) ∧ Below w.heap.size w w' := by
  rw [← hz]; exact impl_tsw v l w hv hn

end Go.Proofs.Ytjfeknfdpdfdeaa
