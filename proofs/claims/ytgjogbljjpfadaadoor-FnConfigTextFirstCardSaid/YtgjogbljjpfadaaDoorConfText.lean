/-
  The text of a configuration: what the program's and the reference's functions return.
-/
import Derived.Test.YtgjogbljjpfadaaDoorShelf
import Derived.Test.YtgjogbljjpfadaaDoorShellText
import Derived.Test.YtgjogbljjpfadaaDoorConfigOpen
import Derived.Shelf.Strings.OnBuilder
namespace Go.Proofs
open Go.Shelf
theorem Tryd.builder156 : Builder.Extra Tryd.prog Tryd.lays156_ren := {
  sizeBuilder := by kernel_rfl
  liesBuilder := by kernel_rfl
  t5 := Tryd.underlying5
  a5 := Tryd.isAgg5
  z5 := Tryd.sizeOf5
  v5 := Tryd.zeroValue5
  infoByte := by kernel_rfl
  cellsByte := by kernel_rfl
  sizeByte := by kernel_rfl
  neB5 := by decide }
end Go.Proofs
namespace Go.Proofs.YtgjogbljjpfadaaDoor
open Go.ChangeShapes Go.WideShapes Go.ChangeAt Go.RowKit Go.Deep Go.Joins
set_option linter.unusedVariables false
set_option maxRecDepth 100000

/-- an owned slice of strings -/
def OwnT (w : World) (B : Nat) (v : Value) (xs : List ByteArray) : Prop := w.ownsRow B 9 1 v xs.length (xs.map Value.string)
theorem OwnT.alloc {w : World} {B : Nat} {v : Value} {xs : List ByteArray} (h : OwnT w B v xs) (o : Obj) : OwnT (w.alloc o) B v xs := World.ownsRow.alloc h o
theorem OwnT.kept {w w' : World} {B : Nat} {v : Value} {l : List ByteArray} {row : Option Nat} (h : OwnT w B v l) (hg : w.grownBy w' row) (hne : v.ownBlock = none ∨ v.ownBlock ≠ row) : OwnT w' B v l := World.ownsRow.kept h hg hne
theorem OwnT.below {w w' : World} {B : Nat} {v : Value} {l : List ByteArray} (h : OwnT w B v l) (hb : Below w.heap.size w w') : OwnT w' B v l := by
  cases e : v.ownBlock with
  | none => exact h.kept (row := none) ⟨hb.os, hb.tape, hb.output, hb.size, fun k hk _ => hb.block k hk⟩ (.inl e)
  | some k => exact h.kept (row := none) ⟨hb.os, hb.tape, hb.output, hb.size, fun k hk _ => hb.block k hk⟩ (.inr (by rw [e]; simp))
theorem strInfo : (Tryd.prog.info? 9).map (fun i => (i.zero, i.size, i.bytes)) = some (some (.string ByteArray.empty), 1, 16) := by kernel_rfl
theorem app_str {ops : Array Oper} {rest : List Oper} {o : Oper} {a : Act} {Q : Exit → Act → World → Prop} {w : World} (B : Nat) (hgd : o.guard = none) (ks kx : Nat)
    (ho : o.op = .call { callee := .builtin .append, args := #[.tmp ks, .tmp kx], argTypes := #[41, 41] })
    (v : Value) (l : List ByteArray) (hs : a.eval (.tmp ks) = v) (hown : OwnT w B v l) (hB : B ≤ w.heap.size) (g : Nat) (s : ByteArray) (hx : a.eval (.tmp kx) = .slice (some ⟨g, 0, none⟩) 1 1)
    (hnew : Own w g 9 #[.string s]) (hl : l.length ≤ 16777216)
    (h : ∀ v' w', OwnT w' B v' (l ++ [s]) → w.grownBy w' v.ownBlock → (v'.ownBlock = v.ownBlock ∨ v'.ownBlock = some w.heap.size) → wpList Tryd.prog ops Q rest (a.put o.dst v') w') :
    wpList Tryd.prog ops Q (o :: rest) a w := by
  obtain ⟨i0, hi, hz0, hz1, hz2⟩ := info_parts strInfo
  refine wpList_append_own_at w hgd (.tmp ks) (.tmp kx) 41 ho B 9 i0 _ 1 16 Tryd.underlying41 hi hz0 hz1 hz2 rfl (by omega) v l.length (l.map Value.string) hs hown ⟨g, 0, none⟩ 1 1 [.string s] hx rfl
    (World.news_of_block hnew) (by simp [Value.oneCell']) (by unfold maxLen; omega) (by omega) hB ?_
  intro v' w' h1 h2 h3 h4
  refine h v' w' ?_ h2 h4
  unfold OwnT
  rw [List.map_append, List.length_append]
  exact h1

theorem own_at_str {w : World} {t : TypeId} {C : Array Value} {g : Nat} (h : g = w.heap.size) : Own (w.alloc (.cells C t)) g t C := by rw [h]; exact Own.new w t C
theorem OwnT.form {w : World} {B : Nat} {v : Value} {xs : List ByteArray} (h : OwnT w B v xs) (h0 : 0 < xs.length) : ∃ g cap, v = .slice (some ⟨g, 0, none⟩) xs.length cap ∧ B ≤ g ∧ g < w.heap.size ∧ xs.length ≤ cap ∧ cap ≤ maxLen := by
  rcases h.2 with ⟨_, hn⟩ | ⟨g, cap, cur, hv, hb, hg, hnc, hcm, hsz, htk⟩
  · omega
  · exact ⟨g, cap, hv, hb, (Array.getElem?_eq_some_iff.1 hg).1, hnc, hcm⟩
theorem OwnT.get {w : World} {B : Nat} {xs : List ByteArray} {g n cap : Nat} (h : OwnT w B (.slice (some ⟨g, 0, none⟩) n cap) xs) (hn : n = xs.length) {j : Nat} {x : ByteArray} (hx : xs[j]? = some x) : w.cell? ⟨g, j, none⟩ = some (.string x) := by
  subst hn
  have hj := (List.getElem?_eq_some_iff.1 hx).1
  rw [World.ownsRow.cellAt h j (by omega), List.getElem?_map, hx]
  rfl
theorem OwnT.lt {w : World} {B : Nat} {v : Value} {xs : List ByteArray} (h : OwnT w B v xs) : ∀ k, v.ownBlock = some k → B ≤ k ∧ k < w.heap.size := World.ownsRow.lt h

set_option maxHeartbeats 4000000 in
theorem impl_ct (v : Value) (c : List Sh) (w : World) (hv : ShAt w w.heap.size v c) (hn : c.length ≤ 1048576) :
    Calls Tryd.prog 12 #[v] w fun e w' => e = .returned (.string (cT c)) ∧ Below w.heap.size w w' := by
  have hv0 := hv
  obtain ⟨A, cp, rfl, hlc, hcm, hc⟩ := hv
  unfold maxLen at hcm
  cases hb : cfgB c
  · have HE := Lib.hid (show cT c = ByteArray.empty by simp [cT, hb])
    go_enter Tryd.func12, Tryd.ntmps12
    go_wp2_with fail
    refine (impl_cfg _ c _ hv0).mono ?_
    rintro e w1 ⟨rfl, hb1⟩
    rw [hb]
    go_wp2_with fail
    go_ret
    exact ⟨ret_str HE.out.symm, hb1⟩
  · have HE := Lib.hid (show cT c = ctUp c c.length by simp [cT, hb])
    have hsh := cfg_short hb
    have hpos := cfg_pos hb
    have HC := Lib.hid hb
    clear hb
    obtain ⟨i0, hi, hz0, hz1, hz2⟩ := info_parts strInfo
    go_enter Tryd.func12, Tryd.ntmps12
    go_wp2_with fail
    refine (impl_cfg _ c _ hv0).mono ?_
    rintro e w1 ⟨rfl, hb1⟩
    rw [HC.out]
    have hz := hb1.size
    go_wp2_with (with_reducible refine wpList_make_own _ rfl (.const (.int .i64 0)) (.tmp 10) 41 rfl w.heap.size 9 i0 _ 1 Tryd.underlying41 hi hz0 hz1 .i64 .i64 c.length c.length rfl rfl rfl (by rw [hz2]; omega) (by simp [maxLen]; omega) hz ?_; intro w2 hown2 hg2)
    have L2 := hb1.grown hg2 hz (by simp)
    go_loopg [3, 14] c.length (fun gk p i wr => ∃ k : Nat, gk = c.length - k ∧ k ≤ c.length ∧ i = .int .i64 k ∧ OwnT wr w.heap.size p ((c.take k).map txt) ∧ Below w.heap.size w wr)
    case atStart => exact ⟨0, rfl, by omega, rfl, hown2, L2⟩
    case round =>
      clear hown2 hg2 L2 hb1
      obtain ⟨k, rfl, hk, rfl, hown, hbel⟩ := hrel
      by_cases hlt : k < c.length
      · obtain ⟨b, off, s, rfl, hbl, hbw, hs, c0, c1, c2⟩ := sh_cells hc hbel hlt
        have hlt' : (k : Int) < (c.length : Int) := by omega
        have hx : c.getD k sh0 = c[k] := by simp [List.getD, List.getElem?_eq_getElem hlt]
        have HT := Lib.hid (show (c.take (k + 1)).map txt = (c.take k).map txt ++ [shText s.1 s.2.1 s.2.2] by
          rw [hs, hx, List.take_succ_eq_append_getElem hlt, List.map_append]; rfl)
        have hlen : ((c.take k).map txt).length ≤ 40 := by rw [List.length_map, List.length_take]; omega
        have hbw2 := hbel.size
        clear hs hx
        generalize (c.take k).map txt = xs at *
        go_wp2_with (first
          | (go_at_call 8; refine (impl_st _ _ _ _).mono ?_; rintro e w3 ⟨rfl, hb3⟩
             have hb4 := bel_trans (bel_alloc hbel _) hb3
             have hown3 := (hown.alloc (.cells #[.int .i64 s.1, .int .i64 s.2.1, .int .i64 s.2.2] 25)).below hb3
             have hbw3 := hb4.size)
          | (at_builtin; refine app_str w.heap.size rfl 18 21 rfl _ xs rfl (hown3.alloc _) (by simp; omega) _ (shText s.1 s.2.1 s.2.2) rfl (own_at_str (by first | rfl | simp)) (by omega) ?_; intro v' w5 hown' hgr _))
        have hb5 := (bel_alloc hb4 (.cells #[.string (shText s.1 s.2.1 s.2.2)] 9)).grown hgr (by simp; omega) (fun k hk => (OwnT.lt hown3 k hk).1)
        clear hgr hown hbel hb3 hown3 hb4
        go_wp2_with fail
        go_roundg (c.length - (k + 1))
        case measure => omega
        case rel => exact ⟨k + 1, rfl, by omega, by go_num, by rw [HT.out]; exact hown', hb5⟩
      · have hk2 : k = c.length := by omega
        rw [hk2, List.take_length] at hown
        have hlx : (c.map txt).length = c.length := by simp
        have hf := hown.form (by omega)
        obtain ⟨g, cap, rfl, hg0, hg1, hgc, hgm⟩ := hf
        have hszc := ctUp_size c c.length
        have hJ := Any.strings_Join Tryd.lays156 Tryd.builder156 g 0 cap (c.map txt) spc wr (fun j x hx => by rw [Nat.zero_add]; exact hown.get rfl hx) hg1 (by omega) hgc (by
          have e := congrArg (fun b : ByteArray => b.size) (ctUp_all c)
          have e2 : (⟨(Lib.join ((c.map txt).map (·.data.toList)) spc.data.toList).toArray⟩ : ByteArray).size = (Lib.join ((c.map txt).map (·.data.toList)) spc.data.toList).length := by simp [ByteArray.size]
          rw [e2] at e
          rw [e]; omega)
        rw [ctUp_all, hlx] at hJ
        change Calls Tryd.prog 21 #[.slice (some ⟨g, 0, none⟩) c.length cap, .string ⟨#[32]⟩] wr _ at hJ
        have HJ := Lib.hid hJ
        clear hJ hk2
        go_wp2_with fail
        refine HJ.out.mono ?_
        rintro e w3 ⟨rfl, hb3⟩
        go_wp2_with fail
        go_ret
        exact ⟨ret_str HE.out.symm, bel_trans hbel hb3⟩

set_option maxHeartbeats 4000000 in
theorem spec_ct (v : Value) (c : List Sh) (w : World) (hv : ShAt w w.heap.size v c) (hn : c.length ≤ 1048576) :
    Calls Tryd.prog 10 #[v] w fun e w' => e = .returned (.string (cT c)) ∧ Below w.heap.size w w' := by
  have hv0 := hv
  obtain ⟨A, cp, rfl, hlc, hcm, hc⟩ := hv
  unfold maxLen at hcm
  cases hb : cfgB c
  · have HE := Lib.hid (show cT c = ByteArray.empty by simp [cT, hb])
    go_enter Tryd.func10, Tryd.ntmps10
    go_wp2_with fail
    refine (spec_cfg _ c _ hv0).mono ?_
    rintro e w1 ⟨rfl, hb1⟩
    rw [hb]
    go_wp2_with fail
    go_ret
    exact ⟨ret_str HE.out.symm, hb1⟩
  · have HE := Lib.hid (show cT c = ctUp c c.length by simp [cT, hb])
    have hsh := cfg_short hb
    have HC := Lib.hid hb
    clear hb
    go_enter Tryd.func10, Tryd.ntmps10
    go_wp2_with fail
    refine (spec_cfg _ c _ hv0).mono ?_
    rintro e w1 ⟨rfl, hb1⟩
    rw [HC.out]
    go_wp2_with fail
    go_loopg [3, 4] c.length (fun gk o i wr => ∃ k : Nat, gk = c.length - k ∧ k ≤ c.length ∧ i = .int .i64 k ∧ o = .string (ctUp c k) ∧ Below w.heap.size w wr)
    case atStart => exact ⟨0, rfl, by omega, rfl, rfl, hb1⟩
    case round =>
      clear hb1
      obtain ⟨k, rfl, hk, rfl, rfl, hbel⟩ := hrel
      have hsz := ctUp_size c k
      by_cases hlt : k < c.length
      · obtain ⟨b, off, s, rfl, hbl, hbw, hs, c0, c1, c2⟩ := sh_cells hc hbel hlt
        have hlt' : (k : Int) < (c.length : Int) := by omega
        have hss := ctUp_succ c k
        rw [← hs] at hss
        have hst := fun w => spec_st s.1 s.2.1 s.2.2 w
        have hts := sh_size s.1 s.2.1 s.2.2
        have ht : txt s = shText s.1 s.2.1 s.2.2 := rfl
        rw [ht] at hss
        have hsp : spc.size = 1 := rfl
        have HST := Lib.hid hst
        clear hs ht hst
        generalize ctUp c k = o at *
        generalize shText s.1 s.2.1 s.2.2 = t at *
        by_cases h0 : 0 < k
        · rw [if_pos h0] at hss
          have HT := Lib.hid hss
          have h0' : decide (0 < k) = true := decide_eq_true h0
          clear hss
          have hz : (o ++ spc).size ≤ 400 := by rw [ByteArray.size_append]; omega
          go_wp2_with (go_at_call 6; refine (HST.out _).mono ?_; rintro e w3 ⟨rfl, hb3⟩)
          go_roundg (c.length - (k + 1))
          case measure => omega
          case rel => exact ⟨k + 1, rfl, by omega, by go_num, by rw [HT.out]; rfl, bel_trans hbel hb3⟩
        · rw [if_neg h0] at hss
          have HT := Lib.hid hss
          have h0' : decide (0 < k) = false := decide_eq_false h0
          clear hss
          go_wp2_with (go_at_call 6; refine (HST.out _).mono ?_; rintro e w3 ⟨rfl, hb3⟩)
          go_roundg (c.length - (k + 1))
          case measure => omega
          case rel => exact ⟨k + 1, rfl, by omega, by go_num, by rw [HT.out], bel_trans hbel hb3⟩
      · have HK := Lib.hid (show k = c.length by omega)
        go_wp2_with fail
        go_ret
        exact ⟨ret_str (by rw [HE.out, HK.out]), hbel⟩

end Go.Proofs.YtgjogbljjpfadaaDoor
