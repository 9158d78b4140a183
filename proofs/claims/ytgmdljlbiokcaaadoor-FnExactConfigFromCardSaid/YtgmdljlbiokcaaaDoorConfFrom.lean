/-
  Reading the text of a configuration: what the program's and the reference's functions return.
-/
import Derived.Test.YtgmdljlbiokcaaaDoorShelf
import Derived.Test.YtgmdljlbiokcaaaDoorWordsWalk
import Derived.Test.YtgmdljlbiokcaaaDoorParseS
import Derived.Test.YtgmdljlbiokcaaaDoorDoorErr
import Derived.Shelf.Strings.SplitShaped
namespace Go.Proofs.YtgmdljlbiokcaaaDoor
open Go.ChangeShapes Go.WideShapes Go.ChangeAt Go.RowKit Go.Deep Go.Joins
set_option linter.unusedVariables false
set_option maxRecDepth 100000

theorem impl_split (s : ByteArray) (hs : s.size ≤ 16000000) (w : World) (hL : HLen w) :
    Calls Tryd.prog 42 #[.string s, .string ⟨#[32]⟩] w fun e w' => e = .returned (.slice (some ⟨w.heap.size, 0, none⟩) (wordsB s).length (wordsB s).length) ∧ w' = w.alloc (.cells ((wordsB s).map Value.string).toArray 9) := by
  obtain ⟨m, hm⟩ := hL
  have h := Any.strings_Split { Tryd.laysM146 with } Tryd.laysM146.i9 s ⟨#[32]⟩ m w (by omega) hm (by decide)
  rw [wordsB_split, ← wordsB_len] at h
  exact h

theorem OwnSh.lessB {w : World} {B B' : Nat} {v : Value} {l : List Sh} (h : OwnSh w B v l) (hB : B' ≤ B) : OwnSh w B' v l := by
  refine ⟨h.1, ?_⟩
  rcases h.2 with h | ⟨g, cap, cur, hv, hb, hr⟩
  · exact .inl h
  · exact .inr ⟨g, cap, cur, hv, by omega, hr⟩
theorem OwnSh.emptyAt {w : World} {B g : Nat} (hg : g = w.heap.size) (h : B ≤ w.heap.size) : OwnSh (w.alloc (.cells #[] 24)) B (.slice (some ⟨g, 0, none⟩) 0 0) [] := by
  rw [hg]
  exact OwnSh.empty w B h
/-- what is read, word by word -/
def shs (xs : List ByteArray) : List Sh := xs.map fun x => (frS x).2
theorem cf_fail {s : ByteArray} {x : ByteArray} (hx : x ∈ wordsB s) (h : (frS x).1 = false) : cfS s = (false, []) := by
  unfold cfS
  rw [if_neg]
  intro h2
  have := List.all_eq_true.1 h2.1 x hx
  rw [h] at this
  exact absurd this (by decide)
theorem cf_end {s : ByteArray} (h : ∀ x ∈ wordsB s, (frS x).1 = true) : cfS s = if cfgB (shs (wordsB s)) = true then (true, shs (wordsB s)) else (false, []) := by
  unfold cfS
  have h1 : ((wordsB s).all fun x => (frS x).1) = true := List.all_eq_true.2 h
  by_cases h2 : cfgB (shs (wordsB s)) = true
  · rw [if_pos h2, if_pos ⟨h1, h2⟩]; rfl
  · rw [if_neg h2, if_neg (fun h3 => h2 h3.2)]
/-- what ConfigFrom leaves -/
def CfEnd (s : ByteArray) (w : World) (e : Ending) (w' : World) : Prop := ∃ v, e = .returned (.tuple #[v, .bool (cfS s).1]) ∧ OwnSh w' w.heap.size v (cfS s).2 ∧ Below w.heap.size w w'

set_option maxHeartbeats 8000000 in
theorem impl_cf (s : ByteArray) (hs : s.size ≤ 16000000) (w : World) (hE : HErr w) (hL : HLen w) : Calls Tryd.prog 18 #[.string s] w (CfEnd s w) := by
  have hwl := wordsB_le s
  have hws := fun x => @wordsB_size s x
  obtain ⟨xs, hxs⟩ : ∃ xs, wordsB s = xs := ⟨_, rfl⟩
  have HSP := Lib.hid (impl_split s hs w hL)
  have HFA := Lib.hid (fun x => @cf_fail s x)
  have HEN := Lib.hid (@cf_end s)
  rw [hxs] at HSP HFA HEN hwl hws
  have L1 : Below w.heap.size w (w.alloc (.cells (xs.map Value.string).toArray 9)) := (by repeat (first | exact Below.refl _ _ | assumption | refine bel_drewN ?_ _ | refine bel_drew ?_ | refine bel_alloc ?_ _ | refine bel_set ?_ (by simp; omega) _ | refine bel_set ?_ (by simp) _ | refine bel_trans ?_ (by assumption)))
  have R1 := Own.new w 9 (xs.map Value.string).toArray
  have E1 := herr_bel hE L1
  have hcell : ∀ j x, xs[j]? = some x → (w.alloc (.cells (xs.map Value.string).toArray 9)).cell? ⟨w.heap.size, j, none⟩ = some (.string x) := fun j x hx => by rw [R1.cell]; simp [hx]
  have hblk := R1.lt
  clear R1 hxs hE
  go_enter Tryd.func18, Tryd.ntmps18
  go_wp2_with fail
  refine HSP.out.mono ?_
  rintro e w1 ⟨rfl, rfl⟩
  have hBB : w.heap.size ≤ (w.alloc (.cells (xs.map Value.string).toArray 9)).heap.size := by simp
  generalize w.alloc (.cells (xs.map Value.string).toArray 9) = w1 at *
  go_wp2_with fail
  go_loopg [4, 12] xs.length (fun gk p i wr => ∃ k : Nat, gk = xs.length - k ∧ k ≤ xs.length ∧ i = .int .i64 k ∧ OwnSh wr w1.heap.size p (shs (xs.take k)) ∧ (∀ x ∈ xs.take k, (frS x).1 = true) ∧ Below w1.heap.size w1 wr)
  case atStart => exact ⟨0, by omega, by omega, rfl, OwnSh.nil _ _, by simp, Below.refl _ _⟩
  case round =>
    obtain ⟨k, rfl, hk, rfl, hown, hall, hbel⟩ := hrel
    have hbw := hbel.size
    by_cases hlt : k < xs.length
    · have hlt' : (k : Int) < (xs.length : Int) := by omega
      have hk0 : (0 : Int) ≤ (k : Int) := by omega
      obtain ⟨x, hx⟩ : ∃ x, xs[k]? = some x := ⟨xs[k], List.getElem?_eq_getElem hlt⟩
      have hxm : x ∈ xs := List.mem_of_getElem? hx
      have hc : wr.cell? ⟨w.heap.size, k, none⟩ = some (.string x) := (hbel.cell (show (⟨w.heap.size, k, none⟩ : Addr).block < w1.heap.size from hblk)).trans (hcell k x hx)
      have hblk2 : w.heap.size < wr.heap.size := by omega
      have HP := Lib.hid (fun w hE => impl_sf x (by have := hws x hxm; omega) w hE)
      have e1 : IntKind.i64.wrap ((k : Int) + 1) = k + 1 := IntWalk.i64_in _ (by omega)
      go_wp2_with fail
      refine (HP.out _ (herr_bel E1 hbel)).mono ?_
      rintro e w2 ⟨rfl, hb2⟩
      have L2 := bel_trans hbel hb2
      have O2 := hown.below hb2
      obtain ⟨fb, r, hfr⟩ : ∃ fb r, frS x = (fb, r) := ⟨(frS x).1, (frS x).2, rfl⟩
      rw [hfr]
      cases fb
      · have HF := Lib.hid (HFA.out x hxm (by rw [hfr]))
        clear HP hfr
        go_wp2_with fail
        go_ret2
        exact ⟨_, by rw [HF.out]; rfl, by rw [HF.out]; exact OwnSh.nil _ _, bel_trans L1 (bel_alloc L2 _)⟩
      · have ht2 : shs (xs.take (k + 1)) = shs (xs.take k) ++ [r] := by
          have hxk : xs[k] = x := by rw [List.getElem?_eq_getElem hlt] at hx; exact Option.some.inj hx
          unfold shs
          rw [List.take_succ_eq_append_getElem hlt, List.map_append, hxk, List.map_cons, hfr]
          rfl
        have hall2 : ∀ y ∈ xs.take (k + 1), (frS y).1 = true := by
          have hxk : xs[k] = x := by rw [List.getElem?_eq_getElem hlt] at hx; exact Option.some.inj hx
          intro y hy
          rw [List.take_succ_eq_append_getElem hlt] at hy
          rcases List.mem_append.1 hy with h1 | h1
          · exact hall y h1
          · rw [List.mem_singleton.1 h1, hxk, hfr]
        have HT := Lib.hid ht2
        have HAL := Lib.hid hall2
        have hlen : (shs (xs.take k)).length ≤ 16000001 := by unfold shs; rw [List.length_map, List.length_take]; omega
        have hbw2 := L2.size
        clear ht2 hall2 hall hown hx hxm hc HP hfr
        generalize shs (xs.take k) = l at *
        go_wp2_with (at_builtin; refine app_shell w1.heap.size rfl 23 25 rfl _ l rfl ((O2.alloc _).alloc _) (by simp; omega) _ r rfl (own_here (by first | rfl | simp)) (by omega) ?_; intro v' w5 hown' hgr _)
        have hb5 := (bel_alloc (bel_alloc L2 (.cells #[.int .i64 r.1, .int .i64 r.2.1, .int .i64 r.2.2] 24)) (.cells #[.int .i64 r.1, .int .i64 r.2.1, .int .i64 r.2.2] 24)).grown hgr (by simp; omega) (fun k hk => (World.ownsRow.lt O2 k hk).1)
        go_roundg (xs.length - (k + 1))
        case measure => omega
        case rel => exact ⟨k + 1, rfl, by omega, by go_num, by rw [HT.out]; exact hown', HAL.out, hb5⟩
    · obtain rfl : k = xs.length := by omega
      rw [List.take_length] at hown hall
      have HE2 := Lib.hid (HEN.out hall)
      have hlt' : ¬ (xs.length : Int) < (xs.length : Int) := by omega
      clear hall HFA HEN HSP
      generalize shs xs = l at *
      go_wp2_with fail
      refine (impl_cfg _ l _ hown.at_).mono ?_
      rintro e w2 ⟨rfl, hb2⟩
      have L2 := bel_trans hbel hb2
      have O2 := hown.below hb2
      cases hb : cfgB l
      · have HF2 := HE2.out
        rw [if_neg (by simp [hb])] at HF2
        have HF := Lib.hid HF2
        clear HF2
        go_wp2_with fail
        go_ret2
        exact ⟨_, by rw [HF.out]; rfl, by rw [HF.out]; exact OwnSh.nil _ _, bel_trans L1 L2⟩
      · have HF2 := HE2.out
        rw [if_pos hb] at HF2
        have HF := Lib.hid HF2
        clear HF2
        go_wp2_with fail
        go_ret2
        exact ⟨_, by rw [HF.out]; rfl, by rw [HF.out]; exact OwnSh.lessB O2 hBB, bel_trans L1 L2⟩

set_option maxHeartbeats 8000000 in
theorem spec_cf (s : ByteArray) (hs : s.size ≤ 16000000) (w : World) : Calls Tryd.prog 17 #[.string s] w (CfEnd s w) := by
  have hwl := wordsB_le s
  have hwn := wordsB_len s
  have hws := fun x => @wordsB_size s x
  obtain ⟨xs, hxs⟩ : ∃ xs, wordsB s = xs := ⟨_, rfl⟩
  have HSP := Lib.hid (spec_words s hs w)
  have HFA := Lib.hid (fun x => @cf_fail s x)
  have HEN := Lib.hid (@cf_end s)
  rw [hxs] at HSP HFA HEN hwl hws hwn
  have hpos : 0 < xs.length := by omega
  clear hxs hwn
  go_enter Tryd.func17, Tryd.ntmps17
  go_wp2_with fail
  refine HSP.out.mono ?_
  rintro e w1 ⟨vv, rfl, hownT, L1⟩
  obtain ⟨g, cap, rfl, hg0, hg1, hgc, hgm⟩ := hownT.form hpos
  have hcell : ∀ j x, xs[j]? = some x → w1.cell? ⟨g, j, none⟩ = some (.string x) := fun j x hx => hownT.get rfl hx
  have hBB : w.heap.size ≤ w1.heap.size := L1.size
  clear hownT HSP
  go_wp2_with fail
  go_loopg [5, 6] xs.length (fun gk p i wr => ∃ k : Nat, gk = xs.length - k ∧ k ≤ xs.length ∧ i = .int .i64 k ∧ OwnSh wr w1.heap.size p (shs (xs.take k)) ∧ (∀ x ∈ xs.take k, (frS x).1 = true) ∧ Below w1.heap.size w1 wr)
  case atStart => exact ⟨0, by omega, by omega, rfl, OwnSh.empty _ _ (Nat.le_refl _), by simp, (by repeat (first | exact Below.refl _ _ | assumption | refine bel_drewN ?_ _ | refine bel_drew ?_ | refine bel_alloc ?_ _ | refine bel_set ?_ (by simp; omega) _ | refine bel_set ?_ (by simp) _ | refine bel_trans ?_ (by assumption)))⟩
  case round =>
    obtain ⟨k, rfl, hk, rfl, hown, hall, hbel⟩ := hrel
    have hbw := hbel.size
    by_cases hlt : k < xs.length
    · have hlt' : (k : Int) < (xs.length : Int) := by omega
      have hk0 : (0 : Int) ≤ (k : Int) := by omega
      obtain ⟨x, hx⟩ : ∃ x, xs[k]? = some x := ⟨xs[k], List.getElem?_eq_getElem hlt⟩
      have hxm : x ∈ xs := List.mem_of_getElem? hx
      have hc : wr.cell? ⟨g, k, none⟩ = some (.string x) := (hbel.cell (show (⟨g, k, none⟩ : Addr).block < w1.heap.size from hg1)).trans (hcell k x hx)
      have hblk2 : g < wr.heap.size := by omega
      have HP := Lib.hid (fun w => spec_sf x (by have := hws x hxm; omega) w)
      have e1 : IntKind.i64.wrap ((k : Int) + 1) = k + 1 := IntWalk.i64_in _ (by omega)
      go_wp2_with fail
      refine (HP.out _).mono ?_
      rintro e w2 ⟨rfl, hb2⟩
      have L2 := bel_trans hbel hb2
      have O2 := hown.below hb2
      obtain ⟨fb, r, hfr⟩ : ∃ fb r, frS x = (fb, r) := ⟨(frS x).1, (frS x).2, rfl⟩
      rw [hfr]
      cases fb
      · have HF := Lib.hid (HFA.out x hxm (by rw [hfr]))
        have hbb := L2.size
        clear HP hfr
        go_wp2_with fail
        go_ret2
        exact ⟨_, by rw [HF.out]; rfl, by rw [HF.out]; exact OwnSh.emptyAt (w := w2.alloc (.cells #[.int .i64 r.1, .int .i64 r.2.1, .int .i64 r.2.2] 24)) (g := w2.heap.size + 1) (by simp) (by simp; omega), bel_trans L1 (bel_alloc (bel_alloc L2 _) _)⟩
      · have ht2 : shs (xs.take (k + 1)) = shs (xs.take k) ++ [r] := by
          have hxk : xs[k] = x := by rw [List.getElem?_eq_getElem hlt] at hx; exact Option.some.inj hx
          unfold shs
          rw [List.take_succ_eq_append_getElem hlt, List.map_append, hxk, List.map_cons, hfr]
          rfl
        have hall2 : ∀ y ∈ xs.take (k + 1), (frS y).1 = true := by
          have hxk : xs[k] = x := by rw [List.getElem?_eq_getElem hlt] at hx; exact Option.some.inj hx
          intro y hy
          rw [List.take_succ_eq_append_getElem hlt] at hy
          rcases List.mem_append.1 hy with h1 | h1
          · exact hall y h1
          · rw [List.mem_singleton.1 h1, hxk, hfr]
        have HT := Lib.hid ht2
        have HAL := Lib.hid hall2
        have hlen : (shs (xs.take k)).length ≤ 16000001 := by unfold shs; rw [List.length_map, List.length_take]; omega
        have hbw2 := L2.size
        clear ht2 hall2 hall hown hx hxm hc HP hfr
        generalize shs (xs.take k) = l at *
        go_wp2_with (at_builtin; refine app_shell w1.heap.size rfl 29 31 rfl _ l rfl ((O2.alloc _).alloc _) (by simp; omega) _ r rfl (own_here (by first | rfl | simp)) (by omega) ?_; intro v' w5 hown' hgr _)
        have hb5 := (bel_alloc (bel_alloc L2 (.cells #[.int .i64 r.1, .int .i64 r.2.1, .int .i64 r.2.2] 24)) (.cells #[.int .i64 r.1, .int .i64 r.2.1, .int .i64 r.2.2] 24)).grown hgr (by simp; omega) (fun k hk => (World.ownsRow.lt O2 k hk).1)
        go_roundg (xs.length - (k + 1))
        case measure => omega
        case rel => exact ⟨k + 1, rfl, by omega, by go_num, by rw [HT.out]; exact hown', HAL.out, hb5⟩
    · obtain rfl : k = xs.length := by omega
      rw [List.take_length] at hown hall
      have HE2 := Lib.hid (HEN.out hall)
      have hlt' : ¬ (xs.length : Int) < (xs.length : Int) := by omega
      clear hall HFA HEN
      generalize shs xs = l at *
      go_wp2_with fail
      refine (spec_cfg _ l _ hown.at_).mono ?_
      rintro e w2 ⟨rfl, hb2⟩
      have L2 := bel_trans hbel hb2
      have O2 := hown.below hb2
      cases hb : cfgB l
      · have HF2 := HE2.out
        rw [if_neg (by simp [hb])] at HF2
        have HF := Lib.hid HF2
        have hbb := L2.size
        clear HF2
        go_wp2_with fail
        go_ret2
        exact ⟨_, by rw [HF.out]; rfl, by rw [HF.out]; exact OwnSh.empty _ _ (by omega), bel_trans L1 (bel_alloc L2 _)⟩
      · have HF2 := HE2.out
        rw [if_pos hb] at HF2
        have HF := Lib.hid HF2
        clear HF2
        go_wp2_with fail
        go_ret2
        exact ⟨_, by rw [HF.out]; rfl, by rw [HF.out]; exact OwnSh.lessB O2 hBB, bel_trans L1 L2⟩

end Go.Proofs.YtgmdljlbiokcaaaDoor
