/-
  Maps of the call's own with keys of two integers and integer elements: what is read and written.
-/
import Derived.Test.YtgemocbpfbdnmaaPairs
import Derived.WideKeyElems3
import Derived.WideKeyEntry
import Derived.DeepKeys4
namespace Go.Proofs.Ytgemocbpfbdnmaa
open Go.ChangeShapes Go.WideShapes Go.ChangeAt Go.RowKit Go.Deep Go.Joins
open Go.WideMaps (KeyLaw)
open Go.MapKept (Stamped)
open Go.ChangeMaps (setBlock)
set_option linter.unusedVariables false

def keyV (q : Pr) : Value := .agg #[.int .i64 q.1, .int .i64 q.2]
theorem keyV_inj {a b : Pr} (h : keyV a = keyV b) : a = b := by
  obtain ⟨a1, a2⟩ := a
  obtain ⟨b1, b2⟩ := b
  simp [keyV] at h
  simp [h]
def okKey (q : Pr) : Prop := -9223372036854775808 ≤ q.1 ∧ q.1 ≤ 9223372036854775807 ∧ -9223372036854775808 ≤ q.2 ∧ q.2 ≤ 9223372036854775807

/-- the map of a list of entries, read and written -/
def getF : List (Pr × Int) → Pr → Int
  | [], _ => 0
  | p :: F, q => if p.1 = q then p.2 else getF F q
def putF : List (Pr × Int) → Pr → Int → List (Pr × Int)
  | [], q, v => [(q, v)]
  | p :: F, q, v => if p.1 = q then (q, v) :: F else p :: putF F q v
def addF (F : List (Pr × Int)) (q : Pr) : List (Pr × Int) := putF F q (getF F q)
theorem getF_putF (F : List (Pr × Int)) (q r : Pr) (v : Int) : getF (putF F q v) r = if q = r then v else getF F r := by
  induction F with
  | nil => simp [putF, getF]
  | cons p F ih =>
    simp only [putF]
    split
    · rename_i h
      subst h
      simp only [getF]
      split <;> simp_all
    · rename_i h
      simp only [getF, ih]
      by_cases h1 : p.1 = r
      · rw [if_pos h1, if_pos h1, if_neg (by rw [← h1]; exact fun e => h e.symm)]
      · rw [if_neg h1, if_neg h1]
theorem getF_addF (F : List (Pr × Int)) (q r : Pr) : getF (addF F q) r = getF F r := by
  rw [addF, getF_putF]; split
  · rename_i h; rw [h]
  · rfl
theorem putF_none {F : List (Pr × Int)} {q : Pr} {v : Int} (h : ∀ p ∈ F, p.1 ≠ q) : putF F q v = F ++ [(q, v)] ∧ getF F q = 0 := by
  induction F with
  | nil => exact ⟨rfl, rfl⟩
  | cons p F ih =>
    obtain ⟨h1, h2⟩ := ih fun x hx => h x (by simp [hx])
    have hp := h p (by simp)
    simp only [putF, getF, if_neg hp, h1, h2, List.cons_append, and_self]
theorem putF_some {F : List (Pr × Int)} {q : Pr} {v v0 : Int} : ∀ {j : Nat}, F[j]? = some (q, v0) → (F.map (·.1)).Nodup → putF F q v = F.set j (q, v) ∧ getF F q = v0 := by
  induction F with
  | nil => intro j h; simp at h
  | cons p F ih =>
    intro j h hn
    simp only [List.map_cons, List.nodup_cons] at hn
    cases j with
    | zero =>
      simp at h
      subst h
      simp [putF, getF]
    | succ j =>
      have h' : F[j]? = some (q, v0) := by simpa using h
      have hne : p.1 ≠ q := fun e => hn.1 (List.mem_map.2 ⟨(q, v0), List.mem_of_getElem? h', e.symm⟩)
      obtain ⟨h1, h2⟩ := ih h' hn.2
      simp only [putF, getF, if_neg hne, h1, h2, List.set_cons_succ, and_self]

/-- what is known of the map's type -/
structure MapTy (P : Program) (t k e : TypeId) : Prop where
  und : P.underlying t = some (.map k e)
  law : KeyLaw P k
  key : ∀ q : Pr, okKey q → ∃ kl, keyOf P k (keyV q) = some kl
  zero : ∀ u : World, (zeroValue e).run P u = .ok (.int .i64 0) u

theorem key_two {P : Program} {k : TypeId} {f0 f1 : Field} (hk : P.underlying k = some (.struct #[f0, f1])) (h0 : P.underlying f0.type = some (.int .i64)) (h1 : P.underlying f1.type = some (.int .i64))
    (o0 : f0.offset = 0) (o1 : f1.offset = 1) (c0 : P.cellsOf f0.type = 1) (c1 : P.cellsOf f1.type = 1) (ck : P.cellsOf k = 2) (n0 : (f0.name != "_") = true) (n1 : (f1.name != "_") = true)
    (kt : P.keyType k = true) (hs : 0 < P.types.size) (q : Pr) (hq : okKey q) : ∃ kl, keyOf P k (keyV q) = some kl := by
  obtain ⟨m, hm⟩ : ∃ m, P.types.size = m + 1 := ⟨P.types.size - 1, by omega⟩
  obtain ⟨a, b⟩ := q
  obtain ⟨q1, q2, q3, q4⟩ := hq
  have w1 : (Lit.int .i64 a).wf = true := by simp [Lit.wf, IntKind.min, IntKind.max, IntKind.signed, IntKind.bits]; omega
  have w2 : (Lit.int .i64 b).wf = true := by simp [Lit.wf, IntKind.min, IntKind.max, IntKind.signed, IntKind.bits]; omega
  refine ⟨.string (keyBytes [.int .i64 a, .int .i64 b]), ?_⟩
  · unfold keyOf
    simp [hk, kt, keyV, Value.formed, ck, Program.keyLits, hm, n0, n1, h0, h1, o0, o1, c0, c1, w1, w2, Value.cells]

/-- block b is a map with these entries -/
def MapL (w : World) (b : Nat) (F : List (Pr × Int)) : Prop :=
  ∃ es clock, w.heap[b]? = some (.map es clock) ∧ Stamped es clock ∧ es.toList.map (fun x => (x.key, x.val)) = F.map (fun p => (keyV p.1, Value.int .i64 p.2)) ∧ ∀ p ∈ F, okKey p.1

theorem MapL.lt {w : World} {b : Nat} {F : List (Pr × Int)} (h : MapL w b F) : b < w.heap.size := by
  obtain ⟨es, clock, hb, _⟩ := h
  exact (Array.getElem?_eq_some_iff.1 hb).1
theorem MapL.of_heap {w w' : World} {b : Nat} {F : List (Pr × Int)} (h : MapL w b F) (hh : w'.heap[b]? = w.heap[b]?) : MapL w' b F := by
  obtain ⟨es, clock, hb, r⟩ := h
  exact ⟨es, clock, hh.trans hb, r⟩
theorem MapL.below {w w' : World} {b : Nat} {F : List (Pr × Int)} (h : MapL w b F) (hb : Below w.heap.size w w') : MapL w' b F := h.of_heap (hb.block b h.lt)
theorem MapL.alloc {w : World} {b : Nat} {F : List (Pr × Int)} (h : MapL w b F) (o : Obj) : MapL (w.alloc o) b F := h.of_heap (Below.heap_alloc w o b h.lt)
theorem MapL.drew {w : World} {b : Nat} {F : List (Pr × Int)} (h : MapL w b F) : MapL w.drew b F := h
theorem MapL.drewN {w : World} {b : Nat} {F : List (Pr × Int)} (h : MapL w b F) (n : Nat) : MapL (w.drewN n) b F := h
theorem MapL.made (w : World) : MapL (w.alloc (.map #[] 0)) w.heap.size [] := ⟨#[], 0, heap_alloc_new w _, ⟨by simp, by simp, by simp⟩, rfl, by simp⟩

theorem keys_nodup {es : Array MapEntry} {clock : Nat} {F : List (Pr × Int)} (hs : Stamped es clock) (he : es.toList.map (fun x => (x.key, x.val)) = F.map (fun p => (keyV p.1, Value.int .i64 p.2))) : (F.map (·.1)).Nodup := by
  have h1 : (es.toList.map (fun x => (x.key, x.val))).map (·.1) = (F.map (fun p => (keyV p.1, Value.int .i64 p.2))).map (·.1) := by rw [he]
  simp only [List.map_map] at h1
  have h2 : (F.map (fun p => keyV p.1)).Nodup := by
    have := hs.2.2
    rw [show es.toList.map (·.key) = F.map (fun p => keyV p.1) from h1] at this
    exact this
  rw [show F.map (fun p => keyV p.1) = (F.map (·.1)).map keyV by simp [List.map_map, Function.comp_def]] at h2
  exact List.Pairwise.of_map keyV (fun a b h e => h (by rw [e])) h2

theorem map_push {es : Array MapEntry} {F : List (Pr × Int)} (he : es.toList.map (fun x => (x.key, x.val)) = F.map (fun p => (keyV p.1, Value.int .i64 p.2))) (q : Pr) (v : Int) (born : Nat) :
    (es.push ⟨keyV q, .int .i64 v, born⟩).toList.map (fun x => (x.key, x.val)) = (F ++ [(q, v)]).map (fun p => (keyV p.1, Value.int .i64 p.2)) := by
  simp [he]
theorem stamp_push {es : Array MapEntry} {clock : Nat} (hs : Stamped es clock) {key val : Value} (hn : ∀ x ∈ es.toList, x.key ≠ key) : Stamped (es.push ⟨key, val, clock⟩) (clock + 1) := by
  obtain ⟨s1, s2, s3⟩ := hs
  refine ⟨fun x hx => ?_, ?_, ?_⟩
  · simp only [Array.toList_push, List.mem_append, List.mem_singleton] at hx
    rcases hx with hx | rfl
    · have := s1 x hx; omega
    · simp
  · simp only [Array.toList_push, List.map_append, List.map_cons, List.map_nil]
    refine List.nodup_append.2 ⟨s2, by simp, fun a ha c hc e1 => ?_⟩
    simp only [List.mem_singleton] at hc
    obtain ⟨x, hx, rfl⟩ := List.mem_map.1 ha
    have := s1 x hx
    omega
  · simp only [Array.toList_push, List.map_append, List.map_cons, List.map_nil]
    refine List.nodup_append.2 ⟨s3, by simp, fun a ha c hc e1 => ?_⟩
    simp only [List.mem_singleton] at hc
    obtain ⟨x, hx, rfl⟩ := List.mem_map.1 ha
    exact hn x hx (e1.trans hc)
theorem toList_mod {es : Array MapEntry} {j : Nat} {e0 : MapEntry} (hj : es.toList[j]? = some e0) (f : MapEntry → MapEntry) : (es.modify j f).toList = es.toList.set j (f e0) := by
  apply List.ext_getElem?
  intro i
  rw [Array.getElem?_toList, Array.getElem?_modify, List.getElem?_set]
  have hj' : es[j]? = some e0 := by simpa using hj
  by_cases h : j = i
  · subst h
    rw [if_pos rfl, if_pos rfl, if_pos (List.getElem?_eq_some_iff.1 hj).1, hj']; rfl
  · simp [h]
theorem stamp_mod {es : Array MapEntry} {clock : Nat} (hs : Stamped es clock) {j : Nat} {e0 : MapEntry} (hj : es.toList[j]? = some e0) (f : MapEntry → MapEntry) (hb : (f e0).born = e0.born) (hk : (f e0).key = e0.key) : Stamped (es.modify j f) clock := by
  obtain ⟨s1, s2, s3⟩ := hs
  have same : ∀ {α : Type} (g : MapEntry → α), g (f e0) = g e0 → ((es.modify j f).toList.map g) = es.toList.map g := by
    intro α g hg
    rw [toList_mod hj]
    apply List.ext_getElem?
    intro i
    rw [List.getElem?_map, List.getElem?_map, List.getElem?_set]
    by_cases h : j = i
    · subst h
      have hlt : j < es.toList.length := (List.getElem?_eq_some_iff.1 hj).1
      rw [if_pos rfl, if_pos hlt, hj]; simp [hg]
    · rw [if_neg h]
  refine ⟨fun x hx => ?_, by rw [same (·.born) hb]; exact s2, by rw [same (·.key) hk]; exact s3⟩
  have hm : x.born ∈ (es.modify j f).toList.map (·.born) := List.mem_map.2 ⟨x, hx, rfl⟩
  rw [same (·.born) hb] at hm
  obtain ⟨y, hy, h1⟩ := List.mem_map.1 hm
  rw [← h1]; exact s1 y hy
theorem map_mod {es : Array MapEntry} {F : List (Pr × Int)} (he : es.toList.map (fun x => (x.key, x.val)) = F.map (fun p => (keyV p.1, Value.int .i64 p.2))) {j : Nat} {e0 : MapEntry} (hj : es.toList[j]? = some e0) (f : MapEntry → MapEntry)
    {q : Pr} {v : Int} (hk : (f e0).key = keyV q) (hv : (f e0).val = .int .i64 v) : (es.modify j f).toList.map (fun x => (x.key, x.val)) = (F.set j (q, v)).map (fun p => (keyV p.1, Value.int .i64 p.2)) := by
  rw [toList_mod hj, List.map_set, List.map_set, he, hk, hv]
theorem ok_put {F : List (Pr × Int)} {q : Pr} {v : Int} (h : ∀ p ∈ F, okKey p.1) (hq : okKey q) : ∀ p ∈ putF F q v, okKey p.1 := by
  induction F with
  | nil => intro p hp; simp [putF] at hp; subst hp; exact hq
  | cons x F ih =>
    intro p hp
    simp only [putF] at hp
    split at hp
    · rcases List.mem_cons.1 hp with rfl | hp
      · exact hq
      · exact h p (by simp [hp])
    · rcases List.mem_cons.1 hp with rfl | hp
      · exact h _ (by simp)
      · exact ih (fun y hy => h y (by simp [hy])) p hp
theorem heap_set {w : World} {b : Nat} (h : b < w.heap.size) (o : Obj) : (setBlock w b o).heap[b]? = some o := by simp [setBlock, h]
theorem grown_set (w : World) (b : Nat) (o : Obj) : w.grownBy (setBlock w b o) (some b) :=
  ⟨rfl, rfl, rfl, by simp [setBlock], fun i hi hne => by
    have : b ≠ i := fun e => hne (by rw [e])
    simp [setBlock, Array.getElem?_setIfInBounds, this]⟩
theorem born_at {es : Array MapEntry} {clock : Nat} (hs : Stamped es clock) {j : Nat} {e0 : MapEntry} (hj : es.toList[j]? = some e0) : es.findIdx? (fun e => ((e.born : Nat) : Int) == ((e0.born : Nat) : Int)) = some j := by
  rw [Go.WideElems.findIdx_arr]
  exact Go.WideElems.findIdx_born hs.2.1 hj

section
variable {P : Program} {t k e : TypeId} (M : MapTy P t k e)
include M
theorem find_two {es : Array MapEntry} {clock : Nat} {F : List (Pr × Int)} {q : Pr} (hs : Stamped es clock) (he : es.toList.map (fun x => (x.key, x.val)) = F.map (fun p => (keyV p.1, Value.int .i64 p.2))) (hk : ∀ p ∈ F, okKey p.1) (hq : okKey q) (w : World) :
    ((Instr.findKey k (keyV q) es.toList).run P w = .ok none w ∧ (∀ x ∈ es.toList, x.key ≠ keyV q) ∧ ∀ p ∈ F, p.1 ≠ q) ∨
    ∃ j e0 v, (Instr.findKey k (keyV q) es.toList).run P w = .ok (some (j, e0.val)) w ∧ es.toList[j]? = some e0 ∧ e0.key = keyV q ∧ e0.val = .int .i64 v ∧ F[j]? = some (q, v) := by
  obtain ⟨kl, hkl⟩ := M.key q hq
  have hat : ∀ (j : Nat) (x : MapEntry), es.toList[j]? = some x → ∃ p, F[j]? = some p ∧ x.key = keyV p.1 ∧ x.val = .int .i64 p.2 := by
    intro j x hx
    have h1 : (es.toList.map (fun x : MapEntry => (x.key, x.val)))[j]? = some (x.key, x.val) := by rw [List.getElem?_map, hx]; rfl
    rw [he, List.getElem?_map] at h1
    obtain ⟨p, hp, h2⟩ := Option.map_eq_some_iff.1 h1
    injection h2 with h3 h4
    exact ⟨p, hp, h3.symm, h4.symm⟩
  rcases M.law.find w hkl es.toList (fun x hx => by
    obtain ⟨j, hj⟩ := List.mem_iff_getElem?.1 hx
    obtain ⟨p, hp, h1, _⟩ := hat j x hj
    rw [h1]
    exact M.key _ (hk p (List.mem_of_getElem? hp))) with ⟨h1, h2⟩ | ⟨j, e0, h1, h2, h3⟩
  · refine .inl ⟨h1, h2, fun p hp e => ?_⟩
    obtain ⟨j, hj⟩ := List.mem_iff_getElem?.1 hp
    have h3 : (F.map (fun p : Pr × Int => (keyV p.1, Value.int .i64 p.2)))[j]? = some (keyV p.1, Value.int .i64 p.2) := by rw [List.getElem?_map, hj]; rfl
    rw [← he, List.getElem?_map] at h3
    obtain ⟨x, hx, h4⟩ := Option.map_eq_some_iff.1 h3
    injection h4 with h5 _
    exact h2 x (List.mem_of_getElem? hx) (by rw [h5, e])
  · obtain ⟨p, hp, h4, h5⟩ := hat j e0 h2
    have hpq : p.1 = q := keyV_inj (h4.symm.trans h3)
    exact .inr ⟨j, e0, p.2, h1, h2, h3, h5, by rw [hp, ← hpq]⟩

/-- a look-up -/
theorem MapL.look {w : World} {b : Nat} {F : List (Pr × Int)} {q : Pr} (h : MapL w b F) (hq : okKey q) : (Instr.lookup t (.map (some b)) (keyV q) false).run P w = .ok (.int .i64 (getF F q)) w := by
  obtain ⟨es, clock, hb, hs, he, hk⟩ := h
  obtain ⟨kl, hkl⟩ := M.key q hq
  rcases find_two M hs he hk hq w with ⟨h1, _, h2⟩ | ⟨j, e0, v, h1, h2, h3, h4, h5⟩
  · rw [(putF_none (v := 0) h2).2]
    simp [Instr.lookup, run_underlying M.und, MapKept.run_getObj_map hb, M.law.check w _ hkl, h1, M.zero w, Result.andThen]
  · rw [(putF_some (v := 0) h5 (keys_nodup hs he)).2]
    rw [h4] at h1
    simp [Instr.lookup, run_underlying M.und, MapKept.run_getObj_map hb, M.law.check w _ hkl, h1, Result.andThen]

/-- a place of the map, and the store to it -/
theorem MapL.entry {w : World} {b : Nat} {F : List (Pr × Int)} {q : Pr} (h : MapL w b F) (hq : okKey q) :
    ∃ (st : Nat) (o1 : Obj), (Instr.mapEntry t (.map (some b)) (keyV q)).run P w = .ok (.tuple #[.int .i64 (getF F q), goInt st]) (setBlock w b o1) ∧ MapL (setBlock w b o1) b (addF F q) ∧
      ∀ (w2 : World) (val : Int), w2.heap[b]? = (setBlock w b o1).heap[b]? → ∃ o2, (Instr.entryStore t (.map (some b)) (goInt st) (.int .i64 val)).run P w2 = .ok () (setBlock w2 b o2) ∧ MapL (setBlock w2 b o2) b (putF F q val) := by
  have hlt := h.lt
  obtain ⟨es, clock, hb, hs, he, hk⟩ := h
  obtain ⟨kl, hkl⟩ := M.key q hq
  rcases find_two M hs he hk hq w with ⟨h1, hno, h2⟩ | ⟨j, e0, v, h1, h2, h3, h4, h5⟩
  · have hp := fun v => (putF_none (v := v) h2)
    refine ⟨clock, .map (es.push ⟨keyV q, .int .i64 0, clock⟩) (clock + 1), ?_, ⟨_, _, heap_set hlt _, stamp_push hs hno, ?_, ?_⟩, fun w2 val hw2 => ?_⟩
    · rw [(hp 0).2]
      simp [Instr.mapEntry, run_underlying M.und, MapKept.run_getObj_map hb, M.law.check w false hkl, h1, M.zero w, MapKept.run_setObj_map _ hb, Result.andThen, setBlock, goInt]
    · rw [addF, (hp 0).2, (hp 0).1]; exact map_push he q 0 clock
    · rw [addF]; exact ok_put hk hq
    · have hw3 : w2.heap[b]? = some (.map (es.push ⟨keyV q, .int .i64 0, clock⟩) (clock + 1)) := hw2.trans (heap_set hlt _)
      have hlt2 : b < w2.heap.size := (Array.getElem?_eq_some_iff.1 hw3).1
      have hj : (es.push ⟨keyV q, .int .i64 0, clock⟩).toList[es.size]? = some ⟨keyV q, .int .i64 0, clock⟩ := by simp
      have hidx := born_at (stamp_push hs hno (val := .int .i64 0)) hj
      refine ⟨.map ((es.push ⟨keyV q, .int .i64 0, clock⟩).modify es.size fun e => { e with val := .int .i64 val }) (clock + 1), ?_, ⟨_, _, heap_set hlt2 _, stamp_mod (stamp_push hs hno) hj _ rfl rfl, ?_, ok_put hk hq⟩⟩
      · simp only at hidx
        simp [Instr.entryStore, MapKept.run_getObj_map hw3, asInt, asIntOf, goInt, hidx, MapKept.run_setObj_map _ hw3, Result.andThen, setBlock]
      · have hl : F.length = es.size := by have := congrArg List.length he; simpa using this.symm
        rw [map_mod (map_push he q 0 clock) hj (q := q) (v := val) (fun e => { e with val := .int .i64 val }) rfl rfl, (hp val).1, ← hl, List.set_append_right _ _ (Nat.le_refl _)]
        simp
  · have hp := fun v => (putF_some (v := v) h5 (keys_nodup hs he))
    have hj : es[j]? = some e0 := by simpa using h2
    have hsame : es.modify j (fun e => { e with key := keyV q }) = es := by
      apply Array.ext'
      rw [toList_mod h2]
      apply List.ext_getElem?
      intro i
      rw [List.getElem?_set]
      by_cases hji : j = i
      · subst hji
        rw [if_pos rfl, if_pos (List.getElem?_eq_some_iff.1 h2).1, h2, ← h3]
      · rw [if_neg hji]
    refine ⟨e0.born, .map es clock, ?_, ⟨es, clock, heap_set hlt _, hs, ?_, ?_⟩, fun w2 val hw2 => ?_⟩
    · rw [(hp 0).2, ← h4]
      simp [Instr.mapEntry, run_underlying M.und, MapKept.run_getObj_map hb, M.law.check w false hkl, h1, hj, h3, M.law.stays w hkl, hsame, MapKept.run_setObj_map _ hb, Result.andThen, setBlock, goInt]
    · rw [addF, (hp 0).2, (hp v).1]
      have : F.set j (q, v) = F := by
        apply List.ext_getElem?
        intro i
        rw [List.getElem?_set]
        by_cases hji : j = i
        · subst hji; rw [if_pos rfl, if_pos (List.getElem?_eq_some_iff.1 h5).1, h5]
        · rw [if_neg hji]
      rw [this]; exact he
    · rw [addF]; exact ok_put hk hq
    · have hw3 : w2.heap[b]? = some (.map es clock) := hw2.trans (heap_set hlt _)
      have hlt2 : b < w2.heap.size := (Array.getElem?_eq_some_iff.1 hw3).1
      have hidx := born_at hs h2
      refine ⟨.map (es.modify j fun e => { e with val := .int .i64 val }) clock, ?_, ⟨_, _, heap_set hlt2 _, stamp_mod hs h2 _ rfl rfl, ?_, ok_put hk hq⟩⟩
      · simp [Instr.entryStore, MapKept.run_getObj_map hw3, asInt, asIntOf, goInt, hidx, MapKept.run_setObj_map _ hw3, Result.andThen, setBlock]
      · rw [map_mod he h2 (q := q) (v := val) (fun e => { e with val := .int .i64 val }) h3 rfl, (hp val).1]
/-- a plain store -/
theorem MapL.store {w : World} {b : Nat} {F : List (Pr × Int)} {q : Pr} (h : MapL w b F) (hq : okKey q) (val : Int) :
    ∃ o2, (Instr.mapUpdate t (.map (some b)) (keyV q) (.int .i64 val)).run P w = .ok () (setBlock w b o2) ∧ MapL (setBlock w b o2) b (putF F q val) := by
  have hlt := h.lt
  obtain ⟨es, clock, hb, hs, he, hk⟩ := h
  obtain ⟨kl, hkl⟩ := M.key q hq
  rcases find_two M hs he hk hq w with ⟨h1, hno, h2⟩ | ⟨j, e0, v, h1, h2, h3, h4, h5⟩
  · refine ⟨.map (es.push ⟨keyV q, .int .i64 val, clock⟩) (clock + 1), ?_, ⟨_, _, heap_set hlt _, stamp_push hs hno, ?_, ok_put hk hq⟩⟩
    · simp [Instr.mapUpdate, run_underlying M.und, MapKept.run_getObj_map hb, M.law.check w false hkl, h1, MapKept.run_setObj_map _ hb, Result.andThen, setBlock]
    · rw [(putF_none h2).1]; exact map_push he q val clock
  · have hj : es[j]? = some e0 := by simpa using h2
    refine ⟨.map (es.modify j fun e => { e with key := keyV q, val := .int .i64 val }) clock, ?_, ⟨_, _, heap_set hlt _, stamp_mod hs h2 _ rfl h3.symm, ?_, ok_put hk hq⟩⟩
    · simp [Instr.mapUpdate, run_underlying M.und, MapKept.run_getObj_map hb, M.law.check w false hkl, h1, hj, h3, M.law.stays w hkl, MapKept.run_setObj_map _ hb, Result.andThen, setBlock]
    · rw [map_mod he h2 (q := q) (v := val) (fun e => { e with key := keyV q, val := .int .i64 val }) rfl rfl, (putF_some h5 (keys_nodup hs he)).1]
end

end Go.Proofs.Ytgemocbpfbdnmaa
