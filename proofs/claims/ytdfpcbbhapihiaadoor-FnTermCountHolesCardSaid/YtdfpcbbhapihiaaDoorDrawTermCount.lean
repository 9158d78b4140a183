/-
  The draw of numbers for the law of the number of terms.
-/
import Derived.Test.YtdfpcbbhapihiaaDoorDrawShell
import Derived.Test.YtdfpcbbhapihiaaDoorDrawMicro
import Derived.Test.YtdfpcbbhapihiaaDoorTermCount
namespace Go.Proofs.YtdfpcbbhapihiaaDoor
open Go.ChangeShapes Go.WideShapes Go.ChangeAt Go.RowKit Go.Deep Go.Joins micro
set_option linter.unusedVariables false

theorem termInfo1 : (Tryd.prog.info? 32).map (fun i => (i.zero, i.size, i.bytes)) = some (some (.agg #[.int .i64 0, .int .i64 0]), 2, 16) := by kernel_rfl
theorem ownp_lt {t : TypeId} {w : World} {B : Nat} {v : Value} {l : List Pr} (h : OwnP t w B v l) : ∀ k, v.ownBlock = some k → B ≤ k ∧ k < w.heap.size := World.ownsRow.lt h

theorem TC_bd (l n s o : Int) : -1 ≤ TC l n s o + 2048 ∧ TC l n s o ≤ 2048 := by
  unfold TC
  split
  · rename_i h
    obtain ⟨m, hm, hm2, hn0, hn1, hmt⟩ := evB_nat h.2
    have hle := ms_le hm2 n
    rw [MC_val h.2 hmt, MC_val h.2 hmt, MC_val h.2 hmt, MC_val h.2 hmt]
    have b1 := cntP_bd (ms m n) o s
    have b2 := cntP_bd (ms m n) (o + 1) s
    have b3 := cntP_bd (ms m n) o (s + 2)
    have b4 := cntP_bd (ms m n) (o + 1) (s + 2)
    omega
  · omega

def RngT (L : List Pr) : Prop := ∀ t ∈ L, 0 ≤ t.1 ∧ t.1 ≤ 5 ∧ 0 ≤ t.2 ∧ t.2 ≤ 6
theorem RngT.snoc {L : List Pr} (h : RngT L) {s o : Int} (h1 : 0 ≤ s) (h2 : s ≤ 5) (h3 : 0 ≤ o) (h4 : o ≤ 6) : RngT (L ++ [(s, o)]) := by
  intro t ht
  rcases List.mem_append.1 ht with ht | ht
  · exact h t ht
  · simp at ht; subst ht; exact ⟨h1, h2, h3, h4⟩
/-- what a call that lists terms leaves -/
def TsEnd (w : World) (e : Ending) (w' : World) : Prop := ∃ v L, e = .returned v ∧ L.length ≤ 100000 ∧ RngT L ∧ OwnP 32 w' w.heap.size v L ∧ Below w.heap.size w w'

set_option maxHeartbeats 4000000 in
theorem spec_ts (l n : Int) (w : World) : Calls Tryd.prog 29 #[.int .i64 l, .int .i64 n] w (TsEnd w) := by
  cases hv : evB l n
  · go_enter Tryd.func29, Tryd.ntmps29
    go_wp2_with (go_at_call 25; refine (spec_ok _ _ _).mono ?_; rintro e w' ⟨rfl, rfl⟩)
    go_ret
    exact ⟨_, [], rfl, by simp, by intro t ht; simp at ht, OwnP.empty (t := 32) w w.heap.size (Nat.le_refl _), (by repeat (first | exact Below.refl _ _ | assumption | refine bel_drewN ?_ _ | refine bel_drew ?_ | refine bel_alloc ?_ _ | refine bel_set ?_ (by simp; omega) _ | refine bel_set ?_ (by simp) _ | refine bel_trans ?_ (by assumption)))⟩
  · have O0 := OwnP.empty (t := 32) w w.heap.size (Nat.le_refl _)
    have L0 := bel_alloc (Below.refl w.heap.size w) (.cells #[] 32)
    go_enter Tryd.func29, Tryd.ntmps29
    go_wp2_with (go_at_call 25; refine (spec_ok _ _ _).mono ?_; rintro e w' ⟨rfl, rfl⟩)
    go_loopg [5, 6] 6 (fun gk v0 i wr => ∃ (k : Nat) (s : Int) (v : Value) (L : List Pr), v = v0 ∧ gk = 6 - k ∧ k ≤ 6 ∧ i = .int .i64 s ∧ s + k ≤ 5 ∧ 5 ≤ s + k ∧ L.length ≤ 14336 * k ∧ RngT L ∧ OwnP 32 wr w.heap.size v L ∧ Below w.heap.size w wr)
    case atStart => exact ⟨0, 5, _, [], rfl, rfl, by omega, rfl, by omega, by omega, by simp, by intro t ht; simp at ht, O0, L0⟩
    case round =>
      clear O0 L0
      obtain ⟨k, s, v, L, rfl, rfl, hk, rfl, hs1, hs2, hlen, hrg, hown, hbel⟩ := hrel
      by_cases hlt : 0 ≤ s
      · have hs5 : s ≤ 5 := by omega
        go_wp2_with fail
        go_loopg [5, 7] 7 (fun gk v0 i wr => ∃ (j : Nat) (o : Int) (v : Value) (L : List Pr), v = v0 ∧ gk = 7 - j ∧ j ≤ 7 ∧ i = .int .i64 o ∧ o + j ≤ 6 ∧ 6 ≤ o + j ∧ L.length ≤ 14336 * k + 2048 * j ∧ RngT L ∧ OwnP 32 wr w.heap.size v L ∧ Below w.heap.size w wr)
        case atStart => exact ⟨0, 6, _, L, rfl, rfl, by omega, rfl, by omega, by omega, by omega, hrg, hown, hbel⟩
        case round =>
          clear hown hbel hrg hlen
          obtain ⟨j, o, v, L, rfl, rfl, hj, rfl, ho1, ho2, hlen, hrg, hown, hbel⟩ := hrel
          by_cases hlo : 0 ≤ o
          · have ho6 : o ≤ 6 := by omega
            go_wp2_with fail
            refine (spec_tc _ _ _ _ _).mono ?_
            rintro e w3 ⟨rfl, hb3⟩
            have htb := TC_bd l n s o
            obtain ⟨tb0, tb1⟩ := htb
            generalize TC l n s o = z at *
            have hown3 := (hown.alloc (.cells #[.int .i64 s, .int .i64 o] 32)).below hb3
            have OB := (Own.new wr 32 #[.int .i64 s, .int .i64 o]).below hb3
            have L3 := bel_trans (bel_alloc hbel _) hb3
            have hne : v.ownBlock ≠ some wr.heap.size := fun e => by have := ownp_lt hown _ e; omega
            obtain ⟨r, hr⟩ : ∃ r, wr.heap.size = r := ⟨_, rfl⟩
            rw [hr] at OB hne
            clear hown hb3 hbel
            have hrz : r < w3.heap.size := OB.lt
            go_wp2_with fail
            clear hr hrz
            go_loopg [5, 9] z.toNat (fun gk v0 i wr => ∃ (y : Int) (v : Value) (L : List Pr), v = v0 ∧ gk = y.toNat ∧ i = .int .i64 y ∧ y ≤ 2048 ∧ -2049 ≤ y ∧ L.length + y.toNat ≤ 14336 * k + 2048 * j + 2048 ∧ RngT L ∧ OwnP 32 wr w.heap.size v L ∧ Below w.heap.size w wr ∧ Own wr r 32 #[.int .i64 s, .int .i64 o] ∧ v.ownBlock ≠ some r)
            case atStart => exact ⟨z, _, L, rfl, rfl, rfl, by omega, by omega, by omega, hrg, hown3, L3, OB, hne⟩
            case round =>
              clear hown3 L3 OB hne hrg hlen
              obtain ⟨y, v, L, rfl, rfl, rfl, hy1, hy2, hlen, hrg, hown, hbel, OB, hne⟩ := hrel
              by_cases hy : 0 < y
              · have q0 : wr.cell? ⟨r, 0, none⟩ = some (.int .i64 s) := OB.cell 0
                have q1 : wr.cell? ⟨r, 1, none⟩ = some (.int .i64 o) := OB.cell 1
                go_wp2_with (at_builtin; refine app_pair Tryd.underlying49 termInfo1 w.heap.size rfl 35 37 rfl _ L rfl (hown.alloc _) (by have := hbel.size; simp; omega) _ (s, o) rfl (own_here' (by first | rfl | simp)) (by omega) ?_; intro v' w4 hown' hgr hob)
                have hlt4 := ownp_lt hown
                have hrl := OB.lt
                have L4 : Below w.heap.size w w4 := (bel_alloc hbel _).grown hgr (by have := hbel.size; simp; omega) (fun k hk => by have := hlt4 k hk; omega)
                have OB4 : Own w4 r 32 #[.int .i64 s, .int .i64 o] := (hgr.block r (by simp; omega) (fun e => hne e.symm)).trans (OB.below (bel_alloc (Below.refl _ _) _))
                have hne4 : v'.ownBlock ≠ some r := by
                  rcases hob with h | h
                  · rw [h]; exact hne
                  · rw [h]; intro e; injection e with e; simp at e; omega
                have HRG := Lib.hid (hrg.snoc hlt hs5 hlo ho6)
                clear hgr hown hlt4 hob hne hrg OB hbel q0 q1
                go_wp2_with fail
                go_roundg (y - 1).toNat
                case measure => omega
                case rel => exact ⟨y - 1, _, _, rfl, rfl, by go_num, by omega, by omega, by simp; omega, HRG.out, hown', L4, OB4, hne4⟩
              · go_wp2_with fail
                go_roundg (7 - (j + 1))
                case measure => omega
                case rel => exact ⟨j + 1, o - 1, _, L, rfl, rfl, by omega, by go_num, by omega, by omega, by omega, hrg, hown, hbel⟩
          · go_wp2_with fail
            go_roundg (6 - (k + 1))
            case measure => omega
            case rel => exact ⟨k + 1, s - 1, _, L, rfl, rfl, by omega, by go_num, by omega, by omega, by omega, hrg, hown, hbel⟩
      · go_wp2_with fail
        go_ret
        exact ⟨_, L, rfl, by omega, hrg, hown, hbel⟩

theorem OwnP.cells_at {t : TypeId} {w : World} {B gg cap : Nat} {L : List Pr} (h : OwnP t w B (.slice (some ⟨gg, 0, none⟩) L.length cap) L) (hr : RngT L) {y : Nat} (hy : y < L.length) :
    ∃ s o : Int, w.cell? ⟨gg, y * 2, none⟩ = some (.int .i64 s) ∧ w.cell? ⟨gg, y * 2 + 1, none⟩ = some (.int .i64 o) ∧ 0 ≤ s ∧ s ≤ 5 ∧ 0 ≤ o ∧ o ≤ 6 := by
  obtain ⟨e0, e1⟩ := flat2_get L y _ (List.getElem?_eq_getElem hy)
  exact ⟨_, _, (World.ownsRow.cellAt h (y * 2) (by omega)).trans e0, (World.ownsRow.cellAt h (y * 2 + 1) (by omega)).trans e1, hr _ (List.getElem_mem hy)⟩

/-- what a draw of numbers of terms leaves -/
def TcEnd (w : World) (e : Ending) (w' : World) : Prop :=
  ∃ l n s o : Int, e = .returned (.tuple #[.int .i64 l, .int .i64 n, .agg #[.int .i64 s, .int .i64 o]]) ∧ (-1 ≤ l ∧ l ≤ 3 ∧ -1 ≤ n ∧ n ≤ 15 ∧ -1 ≤ s ∧ s ≤ 9 ∧ -1 ≤ o ∧ o ≤ 9) ∧ Below w.heap.size w w'

set_option maxHeartbeats 4000000 in
theorem draw_tc (A : Option Addr) (n c : Nat) (w : World) (h2 : n ≤ c) (hm : c ≤ maxLen) (h5 : Bytes w w.heap.size A n) :
    Calls Tryd.prog 17 #[.slice A n c] w (TcEnd w) := by
  go_enter Tryd.func17, Tryd.ntmps17
  go_wp2_with fail
  refine (open_any _ _ _ _ h2 hm ((h5.below (bel_alloc (Below.refl _ _) _)).more (by simp))).mono ?_
  rintro e w1 ⟨g, rfl, hr1, hb1⟩
  have hBg : w.heap.size + 1 ≤ g := by have := hr1.1; simpa using this
  have hBg' : w.heap.size ≤ g := by omega
  have hne : w.heap.size ≠ g := by omega
  have O1 := (Own.new w 32 #[.int .i64 0, .int .i64 0]).below hb1
  have L1 : Below w.heap.size w w1 := bel_trans (bel_alloc (Below.refl _ _) _) hb1
  clear hb1
  go_wp2_with fail
  refine (l92_fill _ g 0 (by omega) _ hr1).mono ?_
  rintro e w2 ⟨l, m, rfl, hb, hr2, hg2⟩
  obtain ⟨b1, b2, b3, b4⟩ := hb
  have O2 := O1.pick hg2 hne
  have L2 := bel_only L1 hBg' hg2
  have hgl := hr2.lt
  clear hr1 L1 hg2 O1
  go_wp2_with fail
  refine (spec_ts l m _).mono ?_
  rintro e w3 ⟨v, L, rfl, hLl, hrg, hown, hb3⟩
  have O3 := O2.below hb3
  have L3 := bel_trans L2 hb3
  have hr3 := hr2.below hb3
  clear hr2 L2 O2 hb3
  have fin : ∀ (wx : World) (K : Nat), K ≤ 100 → Rdr wx (w.alloc (.cells #[.int .i64 0, .int .i64 0] 32)).heap.size g K → Own wx w.heap.size 32 #[.int .i64 0, .int .i64 0] → Below w.heap.size w wx →
      Calls Tryd.prog 30 #[.pointer (some ⟨g, 0, none⟩)] wx fun e w' => ∃ s o : Int, e = .returned (.agg #[.int .i64 s, .int .i64 o]) ∧ (-1 ≤ s ∧ s ≤ 9 ∧ -1 ≤ o ∧ o ≤ 9) ∧ Own w' w.heap.size 32 #[.int .i64 0, .int .i64 0] ∧ Below w.heap.size w w' := by
    intro wx K hK hr hO hL
    refine (l92_term _ g K (by omega) _ hr).mono ?_
    rintro e w' ⟨s, o, rfl, hx, _, hg⟩
    exact ⟨s, o, rfl, hx, hO.pick hg hne, bel_only hL hBg' hg⟩
  rcases hown.free with ⟨rfl, hz⟩ | ⟨gg, cap, hob, hgb, rfl, hlc, hcm, hggl⟩
  · go_wp2_with fail
    refine (fin _ _ ?_ hr3 O3 L3).mono ?_
    · omega
    rintro e w4 ⟨s, o, rfl, hx, O4, L4⟩
    have q1 := O4.cell
    have q2 := O4.frozen
    have hl := O4.lt
    go_wp2_with fail
    refine bodyPost_ret (v := .tuple #[.int .i64 l, .int .i64 m, .agg #[.int .i64 s, .int .i64 o]]) (by simp [results, Tryd.results17, go_sem, q1]) rfl ?_
    exact ⟨l, m, s, o, rfl, by omega, bel_set (bel_set L4 (p := ⟨w.heap.size, 0, none⟩) (by simp) _) (p := ⟨w.heap.size, 1, none⟩) (by simp) _⟩
  · by_cases h0 : 0 < L.length
    · have hi0 : (0 : Int) < L.length := by omega
      go_wp2_with fail
      refine (pick_any _ g _ _ (by omega) _ hr3).mono ?_
      rintro e w4 ⟨x, rfl, hx0, hx1, _, hr4, hg4⟩
      have hx1 := hx1 (by omega)
      have O4 := O3.pick hg4 hne
      have L4 := bel_only L3 hBg' hg4
      have hown4 := hown.pick hg4 hgl
      clear hr3 L3 O3 hg4 hown
      by_cases hx : 0 < x
      · go_wp2_with fail
        go_region_with (go_at_call 22; refine (pick_any _ g _ _ (by omega) _ (hr4.below (bel_drew (Below.refl _ _)))).mono ?_; rintro e w5 ⟨y, rfl, hy0, hy1, _, hr5, hg5⟩; have hy1 := hy1 (by omega); have L5 := bel_only (bel_drew L4) hBg' hg5; have O5 := Own.pick (w := w4.drew) O4 hg5 hne; have hown5 := OwnP.pick (w := w4.drew) hown4 hg5 hgl; obtain ⟨s, o, c0, c1, s0, s1, o0, o1⟩ := hown5.cells_at hrg (y := y.toNat) (by omega); have q1 := O5.cell; have q2 := O5.frozen; have hl := O5.lt; have hgl5 : gg < w5.heap.size := (ownp_lt hown5 gg rfl).2)
        have q0 := q1 0
        have q0' := q1 1
        go_wp2_with fail
        refine bodyPost_ret (v := .tuple #[.int .i64 l, .int .i64 m, .agg #[.int .i64 s, .int .i64 o]]) (by simp [results, Tryd.results17, go_sem, q1]) rfl ?_
        exact ⟨l, m, s, o, rfl, by omega, bel_set (bel_set L5 (p := ⟨w.heap.size, 0, none⟩) (by simp) _) (p := ⟨w.heap.size, 1, none⟩) (by simp) _⟩
      · go_wp2_with fail
        refine (fin _ _ ?_ hr4 O4 L4).mono ?_
        · omega
        rintro e w5 ⟨s, o, rfl, hx, O5, L5⟩
        have q1 := O5.cell
        have q2 := O5.frozen
        have hl := O5.lt
        go_wp2_with fail
        refine bodyPost_ret (v := .tuple #[.int .i64 l, .int .i64 m, .agg #[.int .i64 s, .int .i64 o]]) (by simp [results, Tryd.results17, go_sem, q1]) rfl ?_
        exact ⟨l, m, s, o, rfl, by omega, bel_set (bel_set L5 (p := ⟨w.heap.size, 0, none⟩) (by simp) _) (p := ⟨w.heap.size, 1, none⟩) (by simp) _⟩
    · have hz : L.length = 0 := by omega
      rw [hz]
      go_wp2_with fail
      refine (fin _ _ ?_ hr3 O3 L3).mono ?_
      · omega
      rintro e w4 ⟨s, o, rfl, hx, O4, L4⟩
      have q1 := O4.cell
      have q2 := O4.frozen
      have hl := O4.lt
      go_wp2_with fail
      refine bodyPost_ret (v := .tuple #[.int .i64 l, .int .i64 m, .agg #[.int .i64 s, .int .i64 o]]) (by simp [results, Tryd.results17, go_sem, q1]) rfl ?_
      exact ⟨l, m, s, o, rfl, by omega, bel_set (bel_set L4 (p := ⟨w.heap.size, 0, none⟩) (by simp) _) (p := ⟨w.heap.size, 1, none⟩) (by simp) _⟩

end Go.Proofs.YtdfpcbbhapihiaaDoor
