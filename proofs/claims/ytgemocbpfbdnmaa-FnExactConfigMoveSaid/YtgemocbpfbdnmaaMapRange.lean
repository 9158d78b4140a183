/-
  A range over a map of the call's own with keys of two integers: what is still to come, as a list of entries.
-/
import Derived.Test.YtgemocbpfbdnmaaMapTwo
import Derived.Maps.RangeWalk
namespace Go.Proofs.Ytgemocbpfbdnmaa
open Go.ChangeShapes Go.WideShapes Go.ChangeAt Go.RowKit Go.Deep Go.Joins
open Go.MapKept (Stamped)
open Go.ChangeMaps (setBlock)
set_option linter.unusedVariables false

def keyC : Value → Array Value
  | .agg c => c
  | _ => #[]
def toP (x : MapEntry) : Pr × Int := ((valOf ((keyC x.key).getD 0 (.bool false)), valOf ((keyC x.key).getD 1 (.bool false))), valOf x.val)
theorem toP_of {x : MapEntry} {p : Pr × Int} (hk : x.key = keyV p.1) (hv : x.val = .int .i64 p.2) : toP x = p := by
  obtain ⟨⟨a, b⟩, c⟩ := p
  simp [toP, hk, hv, keyV, keyC, valOf]
theorem toP_list : ∀ {l : List MapEntry} {F : List (Pr × Int)}, l.map (fun x => (x.key, x.val)) = F.map (fun p => (keyV p.1, Value.int .i64 p.2)) → l.map toP = F ∧ ∀ x ∈ l, x.key = keyV (toP x).1 ∧ x.val = .int .i64 (toP x).2 := by
  intro l
  induction l with
  | nil => intro F h; cases F with
    | nil => simp
    | cons p F => simp at h
  | cons x l ih => intro F h; cases F with
    | nil => simp at h
    | cons p F =>
      simp only [List.map_cons, List.cons.injEq, Prod.mk.injEq] at h
      obtain ⟨⟨h1, h2⟩, h3⟩ := h
      obtain ⟨i1, i2⟩ := ih h3
      have e := toP_of h1 h2
      refine ⟨by simp [e, i1], fun y hy => ?_⟩
      rcases List.mem_cons.1 hy with rfl | hy
      · rw [e]; exact ⟨h1, h2⟩
      · exact i2 y hy

theorem perm_born {e : MapEntry} : ∀ {l : List MapEntry}, (l.map (·.born)).Nodup → e ∈ l → l.Perm (e :: l.filter (fun x => x.born != e.born)) := by
  intro l
  induction l with
  | nil => intro _ h; simp at h
  | cons x l ih =>
    intro hn he
    simp only [List.map_cons, List.nodup_cons] at hn
    rcases List.mem_cons.1 he with rfl | he
    · have hf : (e :: l).filter (fun x => x.born != e.born) = l := by
        rw [List.filter_cons_of_neg (by simp), List.filter_eq_self]
        intro y hy
        have : y.born ≠ e.born := fun h => hn.1 (List.mem_map.2 ⟨y, hy, h⟩)
        simpa using this
      rw [hf]
    · have hx : x.born ≠ e.born := fun h => hn.1 (List.mem_map.2 ⟨e, he, h.symm⟩)
      rw [List.filter_cons_of_pos (by simpa using hx)]
      exact ((ih hn.2 he).cons x).trans (List.Perm.swap _ _ _)

/-- block b is a map with the entries F; block r an iterator over it that has the entries L to come -/
def MapIt (w : World) (b r : Nat) (F L : List (Pr × Int)) : Prop :=
  ∃ es clock since seen c0, w.heap[b]? = some (.map es clock) ∧ Stamped es clock ∧ (∀ x ∈ es.toList, x.key = keyV (toP x).1 ∧ x.val = .int .i64 (toP x).2) ∧ es.toList.map toP = F ∧
    w.heap[r]? = some (.mapIter (some b) since seen c0) ∧ (∀ x ∈ es.toList, x.born < since) ∧ since ≤ c0 ∧ since ≤ clock ∧ (leftOf es seen).toList.map toP = L

theorem MapIt.lt {w : World} {b r : Nat} {F L : List (Pr × Int)} (h : MapIt w b r F L) : b < w.heap.size ∧ r < w.heap.size := by
  obtain ⟨es, clock, since, seen, c0, hb, _, _, _, hr, _⟩ := h
  exact ⟨(Array.getElem?_eq_some_iff.1 hb).1, (Array.getElem?_eq_some_iff.1 hr).1⟩
theorem MapIt.of_heap {w w' : World} {b r : Nat} {F L : List (Pr × Int)} (h : MapIt w b r F L) (hb : w'.heap[b]? = w.heap[b]?) (hr : w'.heap[r]? = w.heap[r]?) : MapIt w' b r F L := by
  obtain ⟨es, clock, since, seen, c0, h1, h2, h3, h4, h5, h6⟩ := h
  exact ⟨es, clock, since, seen, c0, hb.trans h1, h2, h3, h4, hr.trans h5, h6⟩
theorem MapIt.alloc {w : World} {b r : Nat} {F L : List (Pr × Int)} (h : MapIt w b r F L) (o : Obj) : MapIt (w.alloc o) b r F L := h.of_heap (Below.heap_alloc w o b h.lt.1) (Below.heap_alloc w o r h.lt.2)
theorem MapIt.drew {w : World} {b r : Nat} {F L : List (Pr × Int)} (h : MapIt w b r F L) : MapIt w.drew b r F L := h
theorem MapIt.drewN {w : World} {b r : Nat} {F L : List (Pr × Int)} (h : MapIt w b r F L) (n : Nat) : MapIt (w.drewN n) b r F L := h
theorem MapIt.below {w w' : World} {b r : Nat} {F L : List (Pr × Int)} (h : MapIt w b r F L) (hb : Below w.heap.size w w') : MapIt w' b r F L := h.of_heap (hb.block b h.lt.1) (hb.block r h.lt.2)
theorem MapIt.kept {w w' : World} {b r : Nat} {F L : List (Pr × Int)} {row : Option Nat} (h : MapIt w b r F L) (hg : w.grownBy w' row) (h1 : some b ≠ row) (h2 : some r ≠ row) : MapIt w' b r F L := h.of_heap (hg.block b h.lt.1 h1) (hg.block r h.lt.2 h2)

section
variable {P : Program} {ops : Array Oper} {rest : List Oper} {o : Oper} {a : Act} {Q : Exit → Act → World → Prop} {w : World}

theorem range_two {t k e : TypeId} (M : MapTy P t k e) (hg : o.guard = none) (m : Operand) (hop : o.op = Op.range t m) (b : Nat) (F : List (Pr × Int)) (hm : a.eval m = .map (some b)) (h : MapL w b F)
    (hK : ∀ w', MapIt w' b w.heap.size F F → Below w.heap.size w w' → wpList P ops Q rest (a.put o.dst (.pointer (some ⟨w.heap.size, 0, none⟩))) w') : wpList P ops Q (o :: rest) a w := by
  have hlt := h.lt
  obtain ⟨es, clock, hb, hs, he, hk⟩ := h
  have hrun := run_range_map (P := P) w t k e b es clock M.und hb
  obtain ⟨e1, e2⟩ := toP_list he
  refine wpList_plain hg fun K' hK' => ?_
  unfold Oper.wp
  simp [execOp, hop, hm, hrun, Result.andThen]
  refine hK' _ _ (hK _ ⟨es, clock, clock, #[], clock, (Below.heap_alloc w _ b hlt).trans hb, hs, e2, e1, heap_alloc_new w _, hs.1, Nat.le_refl _, Nat.le_refl _, ?_⟩ (bel_alloc (Below.refl _ _) _))
  unfold leftOf
  rw [Array.toList_filter, List.filter_eq_self.2 (by simp)]
  exact e1

theorem next_two (hg : o.guard = none) (it : Operand) (hop : o.op = Op.next it false) (b r : Nat) (F L : List (Pr × Int)) (hit : a.eval it = .pointer (some ⟨r, 0, none⟩)) (h : MapIt w b r F L)
    (hDone : L = [] → wpList P ops Q rest (a.put o.dst (.tuple #[.bool false])) w)
    (hMore : ∀ (x y z : Int) (L' : List (Pr × Int)) (w' : World), L.Perm (((x, y), z) :: L') → MapIt w' b r F L' → w.grownBy w' (some r) → w'.heap.size = w.heap.size →
      (Instr.entry (.pointer (some ⟨r, 0, none⟩))).run P w' = .ok (.tuple #[.agg #[.int .i64 x, .int .i64 y], .int .i64 z]) w' → wpList P ops Q rest (a.put o.dst (.tuple #[.bool true, .agg #[.int .i64 x, .int .i64 y], .int .i64 z])) w') :
    wpList P ops Q (o :: rest) a w := by
  have hlt := h.lt
  obtain ⟨es, clock, since, seen, c0, hb, hs, hkv, hF, hr, hold, hsc, hsk, hL⟩ := h
  have hne : r ≠ b := fun e => by rw [e, hb] at hr; cases hr
  refine wpList_plain hg fun K' hK' => ?_
  unfold Oper.wp
  rcases run_next_at (P := P) w o.type r b since c0 seen es clock hr hb hold hsc with ⟨h0, hrun⟩ | ⟨e, he, w1, hw1, hrun⟩
  · simp [execOp, hop, hit, hrun, Result.andThen]
    refine hK' _ _ (hDone ?_)
    rw [← hL]
    simp [Array.eq_empty_of_size_eq_zero h0]
  · have hm := mem_left he
    obtain ⟨k1, k2⟩ := hkv e hm.1
    obtain ⟨⟨⟨x, y⟩, z⟩, hp⟩ : ∃ p, toP e = p := ⟨_, rfl⟩
    have k1' : e.key = .agg #[.int .i64 x, .int .i64 y] := by rw [k1, hp]; rfl
    have k2' : e.val = .int .i64 z := by rw [k2, hp]
    rw [k1', k2'] at hrun
    have hh : w1.heap = w.heap := by rcases hw1 with rfl | rfl <;> rfl
    have hbb : (setBlock w1 r (.mapIter (some b) since (seen.push e.born) clock)).heap[b]? = some (.map es clock) := by
      simp [setBlock, hh, Array.getElem?_setIfInBounds, hne, hb]
    have hrr : (setBlock w1 r (.mapIter (some b) since (seen.push e.born) clock)).heap[r]? = some (.mapIter (some b) since (seen.push e.born) clock) := heap_set (by rw [hh]; exact hlt.2) _
    have hen := run_entry_at (P := P) _ r b since seen es clock e hrr hbb hm.1 hs.2.1
    rw [k1', k2'] at hen
    have hll : (leftOf es (seen.push e.born)).toList = (leftOf es seen).toList.filter (fun x => x.born != e.born) := by
      unfold leftOf
      rw [Array.toList_filter, Array.toList_filter, List.filter_filter]
      apply List.filter_congr
      intro x _
      rw [contains_push]
      cases seen.contains x.born <;> simp [bne]
    have hnd : ((leftOf es seen).toList.map (·.born)).Nodup := by
      unfold leftOf
      rw [Array.toList_filter]
      exact List.Nodup.sublist (List.Sublist.map _ List.filter_sublist) hs.2.1
    simp [execOp, hop, hit, hrun, Result.andThen]
    refine hK' _ _ (hMore x y z ((leftOf es (seen.push e.born)).toList.map toP) _ ?_ ⟨es, clock, since, seen.push e.born, clock, hbb, hs, hkv, hF, hrr, hold, hsk, hsk, rfl⟩ ?_ ?_ hen)
    · rw [← hL, hll, ← hp, ← List.map_cons]
      exact (perm_born hnd he).map _
    · refine ⟨?_, ?_, ?_, ?_, fun i hi hn => ?_⟩
      · rcases hw1 with rfl | rfl <;> rfl
      · rcases hw1 with rfl | rfl <;> rfl
      · rcases hw1 with rfl | rfl <;> rfl
      · simp [setBlock, hh]
      · have : r ≠ i := fun e => hn (by rw [e])
        simp [setBlock, hh, Array.getElem?_setIfInBounds, this]
    · simp [setBlock, hh]
end

end Go.Proofs.Ytgemocbpfbdnmaa
