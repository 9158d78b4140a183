/-
  What every law's proof of this seat closes with: a call that returns true and writes to new blocks alone meets the row's post. No condition.
-/
import Derived.Test.YtgmdljlbiokcaaaDoorRows
import Derived.WalkKit
import Derived.ProofKit
import Derived.OpenShut
import Derived.Lib.SmallJoins
import Derived.Lib.Hide
import Derived.Deep.Slices
import Derived.Deep.Fields
import Derived.Deep.QuietTactic
import Derived.BigQuiet
import Derived.WalkLawsBesides
import Derived.WalkSpells
import Derived.Deep.RegionWith
import Derived.Deep.RegionHeld3
import Derived.StillTailTactics
import Derived.Deep.RegionLaw
import Derived.Deep.DeepFit
import Derived.Deep.LoopGhost
import Derived.Deep.DeepCutAuto
import Derived.Deep.AppendLies
import Derived.Maps.AppendAt
namespace Go.Proofs.YtgmdljlbiokcaaaDoor
open Go.ChangeShapes Go.WideShapes Go.ChangeAt Go.RowKit Go.Deep Go.Joins
open Go.ChangeMaps (open_string)
set_option linter.unusedVariables false

theorem own : ownKnob Tryd.prog.godebug = none := by kernel_rfl
theorem laidOut : laidOutB Tryd.prog = true := by kernel_rfl

theorem bel_trans {w a b : World} (h : Below w.heap.size w a) (k : Below a.heap.size a b) : Below w.heap.size w b := h.trans (k.mono h.size)
theorem bel_alloc {w a : World} (h : Below w.heap.size w a) (o : Obj) : Below w.heap.size w (a.alloc o) := h.alloc h.size o
theorem bel_drew {w a : World} (h : Below w.heap.size w a) : Below w.heap.size w a.drew := h.drew
theorem bel_drewN {w a : World} (h : Below w.heap.size w a) (n : Nat) : Below w.heap.size w (a.drewN n) := ⟨h.os, h.tape, h.output, h.size, h.block⟩
theorem bel_set {w a : World} (h : Below w.heap.size w a) {p : Addr} (hp : w.heap.size ≤ p.block) (v : Value) : Below w.heap.size w (a.setCell p v) := h.setCell hp v
/-- what is known of old cells behind a call -/
theorem bcell {W w1 : World} (hb : Below W.heap.size W w1) : (∀ b o, b < W.heap.size → w1.cell? ⟨b, o, none⟩ = W.cell? ⟨b, o, none⟩) ∧ (∀ b o, b < W.heap.size → w1.frozen? ⟨b, o, none⟩ = W.frozen? ⟨b, o, none⟩) :=
  ⟨fun b o h => hb.cell (p := ⟨b, o, none⟩) h, fun b o h => hb.frozen (p := ⟨b, o, none⟩) h⟩

theorem only_drewN {a w : World} {row : Option Nat} (h : a.grownBy w row) (n : Nat) : a.grownBy (w.drewN n) row := ⟨h.os, h.tape, h.output, h.size, h.block⟩
theorem only_drew {a w : World} {row : Option Nat} (h : a.grownBy w row) : a.grownBy w.drew row := ⟨h.os, h.tape, h.output, h.size, h.block⟩
theorem only_alloc {a w : World} {row : Option Nat} (h : a.grownBy w row) (o : Obj) : a.grownBy (w.alloc o) row :=
  ⟨h.os, h.tape, h.output, Nat.le_trans h.size (by simp), fun i hi hne => (Below.heap_alloc w o i (Nat.lt_of_lt_of_le hi h.size)).trans (h.block i hi hne)⟩
theorem only_set {a w : World} {g : Nat} (h : a.grownBy w (some g)) {p : Addr} (hp : a.heap.size ≤ p.block) (u : Value) : a.grownBy (w.setCell p u) (some g) :=
  ⟨h.os, h.tape, h.output, by simpa [World.setCell] using h.size, fun i hi hne => (Below.heap_setCell w p u i (by omega)).trans (h.block i hi hne)⟩
theorem only_trans {a b c : World} {g : Nat} (h : a.grownBy b (some g)) (k : b.grownBy c (some g)) : a.grownBy c (some g) :=
  ⟨k.os.trans h.os, k.tape.trans h.tape, k.output.trans h.output, Nat.le_trans h.size k.size, fun i hi hne => (k.block i (Nat.lt_of_lt_of_le hi h.size) hne).trans (h.block i hi hne)⟩
theorem only_below {a b c : World} {g : Nat} (h : a.grownBy b (some g)) (k : Below b.heap.size b c) : a.grownBy c (some g) :=
  ⟨k.os.trans h.os, k.tape.trans h.tape, k.output.trans h.output, Nat.le_trans h.size k.size, fun i hi hne => (k.block i (Nat.lt_of_lt_of_le hi h.size)).trans (h.block i hi hne)⟩
/-- what is known of other cells behind a call that writes to block g alone -/
theorem gcell {a w' : World} {g : Nat} (hg : a.grownBy w' (some g)) : (∀ b o, b < a.heap.size → b ≠ g → w'.cell? ⟨b, o, none⟩ = a.cell? ⟨b, o, none⟩) ∧ (∀ b o, b < a.heap.size → b ≠ g → w'.frozen? ⟨b, o, none⟩ = a.frozen? ⟨b, o, none⟩) :=
  ⟨fun b o h hne => World.cell?_of_block (hg.block b h (fun e => hne (by injection e))), fun b o h hne => World.frozen?_of_block (hg.block b h (fun e => hne (by injection e)))⟩

/-- block b is just these cells -/
def Own (w : World) (b : Nat) (t : TypeId) (C : Array Value) : Prop := w.heap[b]? = some (.cells C t (0, 0))
theorem Own.lt {w : World} {b : Nat} {t : TypeId} {C : Array Value} (h : Own w b t C) : b < w.heap.size := (Array.getElem?_eq_some_iff.1 h).1
theorem Own.cell {w : World} {b : Nat} {t : TypeId} {C : Array Value} (h : Own w b t C) (o : Nat) : w.cell? ⟨b, o, none⟩ = C[o]? := by
  unfold Own at h; simp [World.cell?, h]
theorem Own.frozen {w : World} {b : Nat} {t : TypeId} {C : Array Value} (h : Own w b t C) (o : Nat) : w.frozen? ⟨b, o, none⟩ = false := by
  unfold Own at h; simp [World.frozen?, h]
theorem Own.new (w : World) (t : TypeId) (C : Array Value) : Own (w.alloc (.cells C t)) w.heap.size t C := heap_alloc_new w _
theorem Own.alloc {w : World} {b : Nat} {t : TypeId} {C : Array Value} (h : Own w b t C) (o : Obj) : Own (w.alloc o) b t C := (Below.heap_alloc w o b h.lt).trans h
theorem Own.drewN {w : World} {b : Nat} {t : TypeId} {C : Array Value} (h : Own w b t C) (n : Nat) : Own (w.drewN n) b t C := h
theorem Own.drew {w : World} {b : Nat} {t : TypeId} {C : Array Value} (h : Own w b t C) : Own w.drew b t C := h
theorem Own.set_ {w : World} {b : Nat} {t : TypeId} {C : Array Value} (h : Own w b t C) (i : Nat) (u : Value) : Own (w.setCell ⟨b, i, none⟩ u) b t (C.setIfInBounds i u) := by
  unfold Own at h ⊢
  simp [World.setCell, Array.getElem?_modify, h]
theorem Own.far {w : World} {b : Nat} {t : TypeId} {C : Array Value} (h : Own w b t C) {p : Addr} (hp : b ≠ p.block) (u : Value) : Own (w.setCell p u) b t C := (Below.heap_setCell w p u b hp).trans h
theorem Own.pick {w w' : World} {b g : Nat} {t : TypeId} {C : Array Value} (h : Own w b t C) (hg : w.grownBy w' (some g)) (hne : b ≠ g) : Own w' b t C := (hg.block b h.lt (fun e => hne (by injection e))).trans h
theorem Own.below {w w' : World} {b : Nat} {t : TypeId} {C : Array Value} (h : Own w b t C) (hb : Below w.heap.size w w') : Own w' b t C := (hb.block b h.lt).trans h

/-- A region that draws its order and whose operations leave all that was there alone: one walk in the order of the text. -/
theorem wp_region_bel {P : Program} {id : Nat} {Q : Exit → Act → World → Prop} {a : Act} {A : World} {l : List Oper} (hm : P.follows .mixedOrders = true) (hB : Region.lexB .any l.toArray = true)
    (h : wpQuiet P l.toArray (fun w' => Below A.heap.size A w') (fun a' => ∀ w', Below A.heap.size A w' → Q .normal a' w') l a) : (Code.region id l.toArray true).wp P Q a A :=
  wp_region_quiet (C := fun w' => Below A.heap.size A w') hm hB (Below.refl A.heap.size A).drew (by simpa using h)
theorem wpQ_skip {P : Program} {ops : Array Oper} {C : World → Prop} {Q : Act → Prop} {o : Oper} {rest : List Oper} {a : Act} (hw : Region.wanted o (yielded ops a.tmps) = false)
    (h : wpQuiet P ops C Q rest (a.put o.dst undef)) : wpQuiet P ops C Q (o :: rest) a := by
  unfold wpQuiet; rw [hw]; exact h
theorem wpQ_take {P : Program} {ops : Array Oper} {C : World → Prop} {Q : Act → Prop} {o : Oper} {rest : List Oper} {a : Act} (hw : Region.wanted o (yielded ops a.tmps) = true)
    (h : ∃ v, (∀ w, C w → o.quietAt P a C w v) ∧ wpQuiet P ops C Q rest (a.put o.dst v)) : wpQuiet P ops C Q (o :: rest) a := by
  unfold wpQuiet; rw [hw]; exact h
theorem keep_cell {a b : World} (hb : Below a.heap.size a b) {p : Addr} {v : Value} (h : a.cell? p = some v) : b.cell? p = some v := (hb.cell (World.block_lt_of_cell? a _ h)).trans h
theorem quiet_left {P : Program} {f : FuncId} {args : Array Value} {w : World} {n : Nat} {v : Value} (h : Calls P f args (w.drewN n) fun e w' => e = .returned v ∧ w.drewN n = w') :
    Calls P f args (w.drewN n) fun e w'' => e = .returned v ∧ ∃ m, w'' = w.drewN m := h.mono fun _ _ ⟨he, hm⟩ => ⟨he, n, hm.symm⟩

section
variable {H : Type} {enc : TypeId × Value → H} {P : Program}

theorem trodAll_below (hl : laidOutB P = true) {W W' : World} (hb : Below W.heap.size W W') :
    ∀ {ts : List TypeId} {vs : List Value} {ds : List (DataW H)} {ps : List MemPlace}, (∀ t ∈ ts, P.readableRec t = true ∧ t < P.types.size) →
      DataW.TrodAll enc P W 0 (fun _ => true) true ts vs ds ps → (∀ x ∈ ps, x.block < W.heap.size) →
      DataW.TrodAll enc P W' 0 (fun b => decide (b < W.heap.size)) true ts vs ds ps := by
  intro ts
  induction ts with
  | nil =>
    intro vs ds ps _ h _
    obtain ⟨rfl, rfl, rfl⟩ := trodAll_nil h
    exact trodAll_mk0
  | cons t ts ih =>
    intro vs ds ps ht h hlt
    obtain ⟨v0, vs0, d0, ds0, p0, q0, rfl, rfl, rfl, h0, r0⟩ := trodAll_cons h
    have h1 := ht t (by simp)
    exact trodAll_cons_mk (Below.trod hl h1.1 h1.2 h0 hb (fun x hx => hlt x (by simp [hx]))) (ih (fun u hu => ht u (by simp [hu])) r0 (fun x hx => hlt x (by simp [hx])))

/-- The step from the walk to the row's post. -/
theorem law_close {f : Func} {s : ChangeSpec} {W : World} {args : Array Value} {ds gs : List (DataW H)} {before : List MemPlace} {K : FuncId} {tb : TypeId}
    (hl : laidOutB P = true) (hp : (f.params.toList.all fun t => P.readableRec t && decide (t < P.types.size)) = true)
    (hr : f.resultTypes = #[tb]) (hb : P.underlying tb = some .bool) (hv : s.vars = [])
    (hs : s.fn H ds = { results := [.lit (.bool true)], args := ds })
    (hW : DataW.Whole enc P f.params.toList s.vars false W args.toList ds gs before)
    (walk : Calls P K args W fun e W' => e = .returned (.bool true) ∧ Below W.heap.size W W') :
    Calls P K args W fun e W' => ∃ v, e = .returned v ∧ s.post enc P f false true false false W args v W' := by
  have hW' := hW
  have hlt := hW.lt
  obtain ⟨p, q, hA, hV, rfl, hfz, hnd⟩ := hW
  rw [hv] at hV
  obtain ⟨rfl, rfl⟩ := trodVars_none hV
  refine walk.mono fun e W' ⟨he, bel⟩ => ?_
  subst he
  refine ⟨_, rfl, ds, [], p ++ [], [], p, [], hW', ?_, ?_, ?_, bel.frame _, fun h => by cases h⟩
  · rw [List.append_nil, hs, hr]
    exact trodAll_mk1 (shut_bool hb _)
  · rw [List.append_nil, hs]
    refine trodAll_below hl bel (fun t ht => ?_) hA (fun x hx => hlt x (by simp [hx]))
    have := List.all_eq_true.1 hp t ht
    simpa using this
  · rw [List.append_nil, hs, hv]
    exact rfl
end

theorem int_bounds {a : Int} (h : (Lit.int .i64 a).wf = true) : -9223372036854775808 ≤ a ∧ a ≤ 9223372036854775807 := by
  simpa [Lit.wf, IntKind.min, IntKind.max, IntKind.signed, IntKind.bits] using h

/-- What the walk is told of a slice of bytes that came in: the bytes can be read. -/
def Bytes (w : World) (B : Nat) (a : Option Addr) (n : Nat) : Prop :=
  0 < n → ∃ b off, a = some ⟨b, off, none⟩ ∧ b < B ∧ ∀ i, i < n → ∃ x : Int, 0 ≤ x ∧ x ≤ 255 ∧ w.cell? ⟨b, off + i, none⟩ = some (.int .u8 x)

theorem Bytes.below {w w' : World} {B n : Nat} {a : Option Addr} (h : Bytes w B a n) (hb : Below B w w') : Bytes w' B a n := fun hn => by
  obtain ⟨b, off, ha, hlt, hc⟩ := h hn
  refine ⟨b, off, ha, hlt, fun i hi => ?_⟩
  obtain ⟨x, h0, h1, hx⟩ := hc i hi
  exact ⟨x, h0, h1, (hb.cell (p := ⟨b, off + i, none⟩) hlt).trans hx⟩

theorem Bytes.more {w : World} {B B' n : Nat} {a : Option Addr} (h : Bytes w B a n) (hB : B ≤ B') : Bytes w B' a n := fun hn => by
  obtain ⟨b, off, ha, hlt, hc⟩ := h hn
  exact ⟨b, off, ha, by omega, hc⟩

theorem Bytes.less {w : World} {B m n : Nat} {a : Option Addr} (h : Bytes w B a n) (hm : m ≤ n) : Bytes w B a m := fun h0 => by
  obtain ⟨b, off, ha, hlt, hc⟩ := h (by omega)
  exact ⟨b, off, ha, hlt, fun i hi => hc i (by omega)⟩

section
variable {H : Type} {enc : TypeId × Value → H} {P : Program}
/-- A slice of bytes that came in. -/
theorem open_bytes {t e : TypeId} {r : Reach} {b0 : Nat} {v : Value} {d : DataW H} {ps : List MemPlace} {W : World} (ht : P.underlying t = some (.slice e)) (he : P.underlying e = some (.int .u8)) (hC : P.cellsOf e = 1)
    (hv : Value.okWide P W r b0 t v) (h : DataW.Trod enc P W 0 (fun _ => true) true t v d ps) (hlt : ∀ x ∈ ps, x.block < W.heap.size) :
    ∃ a n c, v = .slice a n c ∧ n ≤ c ∧ c ≤ maxLen ∧ Bytes W W.heap.size a n := by
  obtain ⟨a, n, c, rfl⟩ := okWide_slice ht hv
  obtain ⟨fuel, hf⟩ := h
  rcases open_ints ht he hC hf with ⟨hcs, hx⟩ | ⟨x, l, cc, zs, hcs, hbb, hl, hm, hz, hx, hcell, hwz⟩
  · simp [Value.cells] at hcs
    obtain ⟨rfl, rfl, rfl⟩ := hcs
    exact ⟨none, 0, 0, rfl, Nat.le_refl _, by simp [maxLen], fun h => absurd h (by omega)⟩
  · simp [Value.cells] at hcs
    obtain ⟨rfl, rfl, rfl⟩ := hcs
    refine ⟨some x, n, c, rfl, hl, hm, fun hn => ?_⟩
    have hzl : zs.length = c := by simpa using hz
    obtain ⟨b, off, sp⟩ := x
    have hc0 := hcell 0 (by omega)
    have hspot : sp = none := by simpa [Addr.add] using World.cell?_spot hc0
    subst hspot
    refine ⟨b, off, rfl, ?_, fun i hi => ?_⟩
    · have := World.block_lt_of_cell? W _ hc0
      simpa [Addr.add] using this
    · have hci := hcell i (by omega)
      have hg : zs.getD i 0 = zs[i]'(by omega) := by simp [List.getD, List.getElem?_eq_getElem (show i < zs.length by omega)]
      have hw := hwz (zs[i]'(by omega)) (List.getElem_mem _)
      rw [hg] at hci
      have hb : 0 ≤ zs[i]'(by omega) ∧ zs[i]'(by omega) ≤ 255 := by simpa [Lit.wf, IntKind.min, IntKind.max, IntKind.signed, IntKind.bits] using hw
      refine ⟨_, hb.1, hb.2, ?_⟩
      rw [← hci]
      simp only [Addr.add]
      by_cases hi0 : i = 0
      · simp [hi0]
      · simp [hi0]
end

end Go.Proofs.YtgmdljlbiokcaaaDoor
