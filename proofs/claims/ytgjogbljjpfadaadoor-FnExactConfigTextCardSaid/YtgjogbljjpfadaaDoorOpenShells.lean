/-
  A slice of shells that came in.
-/
import Derived.Test.YtgjogbljjpfadaaDoorSlices
import Derived.Deep.SlicePairs
import Derived.Deep.Strs
namespace Go.Proofs.YtgjogbljjpfadaaDoor
open Go.ChangeShapes Go.WideShapes Go.ChangeAt Go.RowKit Go.Deep Go.Joins
set_option linter.unusedVariables false

section
variable {H : Type} {enc : TypeId × Value → H} {P : Program}
theorem open_sh {t e : TypeId} {f0 f1 f2 : Field} {r : Reach} {b0 : Nat} {v : Value} {d : DataW H} {ps : List MemPlace} {W : World} (ht : P.underlying t = some (.slice e)) (he : P.underlying e = some (.struct #[f0, f1, f2]))
    (h0 : P.underlying f0.type = some (.int .i64)) (h1 : P.underlying f1.type = some (.int .i64)) (h2 : P.underlying f2.type = some (.int .i64)) (ce : P.cellsOf e = 3)
    (o0 : f0.offset = 0) (o1 : f1.offset = 1) (o2 : f2.offset = 2) (c0 : P.cellsOf f0.type = 1) (c1 : P.cellsOf f1.type = 1) (c2 : P.cellsOf f2.type = 1)
    (hv : Value.okWide P W r b0 t v) (h : DataW.Trod enc P W 0 (fun _ => true) true t v d ps) :
    ∃ a n c l, v = .slice a n c ∧ n ≤ c ∧ c ≤ maxLen ∧ n = l.length ∧ ShAt W W.heap.size (.slice a n c) l := by
  obtain ⟨a, n, c, rfl⟩ := okWide_slice ht hv
  obtain ⟨fuel, hf⟩ := h
  rcases open_slice ht hf with ⟨hcs, hx⟩ | ⟨x, len, cp, m, n', D, Pl, hcs, hb, hl, hm, hmm, hx, hel⟩
  · simp [Value.cells] at hcs
    obtain ⟨rfl, rfl, rfl⟩ := hcs
    exact ⟨none, 0, 0, [], rfl, Nat.le_refl _, by simp [maxLen], rfl, none, 0, rfl, Nat.le_refl _, by simp [maxLen], fun h => by simp at h⟩
  · simp [Value.cells] at hcs
    obtain ⟨rfl, rfl, rfl⟩ := hcs
    have hmc : m = c := by simpa using hmm
    have each : ∀ i, i < c → ∃ q : Sh, W.cell? (x.add (i * 3)) = some (.int .i64 q.1) ∧ W.cell? (x.add (i * 3 + 1)) = some (.int .i64 q.2.1) ∧ W.cell? (x.add (i * 3 + 2)) = some (.int .i64 q.2.2) := by
      intro i hi
      obtain ⟨cs', g1, g2⟩ := hel i (by omega)
      rw [ce] at g1
      obtain ⟨_, hlen, hcell⟩ := World.cells?_some g1
      obtain ⟨y0, y1, y2, k, _, hcl, k0, k1, k2⟩ := trod_struct3 he g2
      match cs', hlen with
      | [v0, v1, v2], _ =>
        simp [o0, o1, o2, c0, c1, c2] at k0 k1 k2
        obtain ⟨a0, e0, _, _⟩ := DataW.trod_int h0 k0
        obtain ⟨a1, e1, _, _⟩ := DataW.trod_int h1 k1
        obtain ⟨a2, e2, _, _⟩ := DataW.trod_int h2 k2
        simp at e0 e1 e2
        subst e0 e1 e2
        have r0 := hcell 0 (by omega)
        have r1 := hcell 1 (by omega)
        have r2 := hcell 2 (by omega)
        rw [add_add] at r0 r1 r2
        exact ⟨(a0, a1, a2), by simpa using r0, by simpa using r1, by simpa using r2⟩
    obtain ⟨q, hq⟩ := choose_lt (α := Sh) each
    refine ⟨some x, n, c, (List.range n).map q, rfl, hl, hm, by simp, some x, c, by simp, by simpa using hl, hm, fun hn => ?_⟩
    have hn : 0 < n := by simpa using hn
    obtain ⟨b, off, sp⟩ := x
    have hc0 := (hq 0 (by omega)).1
    have hspot : sp = none := by simpa [Addr.add] using World.cell?_spot hc0
    subst hspot
    refine ⟨b, off, rfl, ?_, fun i s hs => ?_⟩
    · have := World.block_lt_of_cell? W _ hc0
      simpa [Addr.add] using this
    · have hi : i < n := by simpa using (List.getElem?_eq_some_iff.1 hs).1
      have hs' : s = q i := by
        rw [List.getElem?_map, List.getElem?_range hi] at hs
        simpa using hs.symm
      subst hs'
      obtain ⟨r0, r1, r2⟩ := hq i (by omega)
      refine ⟨?_, ?_, ?_⟩
      · rw [← r0, show (⟨b, off, none⟩ : Addr).add (i * 3) = ⟨b, off + i * 3, none⟩ by unfold Addr.add; split <;> simp_all]
      · rw [← r1]; simp [Addr.add, Nat.add_assoc]
      · rw [← r2]; simp [Addr.add, Nat.add_assoc]
end

theorem open_shells {H : Type} {enc : TypeId × Value → H} {r : Reach} {b0 : Nat} {v : Value} {d : DataW H} {ps : List MemPlace} {W : World}
    (hv : Value.okWide Tryd.prog W r b0 28 v) (h : DataW.Trod enc Tryd.prog W 0 (fun _ => true) true 28 v d ps) (hlt : ∀ x ∈ ps, x.block < W.heap.size) :
    ∃ a n c l, v = .slice a n c ∧ n ≤ c ∧ c ≤ maxLen ∧ n = l.length ∧ ShAt W W.heap.size (.slice a n c) l := by
  exact open_sh Tryd.underlying28 Tryd.underlying23 Tryd.underlying3 Tryd.underlying3 Tryd.underlying3 (by kernel_rfl) rfl rfl rfl (by kernel_rfl) (by kernel_rfl) (by kernel_rfl) hv h

end Go.Proofs.YtgjogbljjpfadaaDoor
