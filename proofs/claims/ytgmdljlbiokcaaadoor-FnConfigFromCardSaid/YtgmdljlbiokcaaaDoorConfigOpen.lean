/-
  The open shells of a configuration: what the program's and the reference's functions return. Append of a shell to an owned slice.
-/
import Derived.Test.YtgmdljlbiokcaaaDoorConfigNums
import Derived.OwnWalk
import Derived.Laws.OwnMore
namespace Go.Proofs.YtgmdljlbiokcaaaDoor
open Go.ChangeShapes Go.WideShapes Go.ChangeAt Go.RowKit Go.Deep Go.Joins
set_option linter.unusedVariables false

theorem shInfo' : (Tryd.prog.info? 24).map (fun i => (i.zero, i.size, i.bytes)) = some (some (.agg #[.int .i64 0, .int .i64 0, .int .i64 0]), 3, 24) := by kernel_rfl
/-- an owned slice that reads as a list of shells -/
def OwnSh (w : World) (B : Nat) (v : Value) (l : List Sh) : Prop := w.ownsRow B 24 3 v l.length (flat l)
theorem OwnSh.alloc {w : World} {B : Nat} {v : Value} {l : List Sh} (h : OwnSh w B v l) (o : Obj) : OwnSh (w.alloc o) B v l := World.ownsRow.alloc h o
theorem OwnSh.drewN {w : World} {B : Nat} {v : Value} {l : List Sh} (h : OwnSh w B v l) (n : Nat) : OwnSh (w.drewN n) B v l := h
theorem OwnSh.nil (w : World) (B : Nat) : OwnSh w B (.slice none 0 0) [] := World.ownsRow_nil _ _ _ _
theorem OwnSh.empty (w : World) (B : Nat) (h : B ≤ w.heap.size) : OwnSh (w.alloc (.cells #[] 24)) B (.slice (some ⟨w.heap.size, 0, none⟩) 0 0) [] :=
  ⟨rfl, .inr ⟨w.heap.size, 0, #[], rfl, h, heap_alloc_new w _, Nat.le_refl _, by simp [maxLen], rfl, rfl⟩⟩
theorem OwnSh.kept {w w' : World} {B : Nat} {v : Value} {l : List Sh} {row : Option Nat} (h : OwnSh w B v l) (hg : w.grownBy w' row) (hne : v.ownBlock = none ∨ v.ownBlock ≠ row) : OwnSh w' B v l := World.ownsRow.kept h hg hne
theorem OwnSh.below {w w' : World} {B : Nat} {v : Value} {l : List Sh} (h : OwnSh w B v l) (hb : Below w.heap.size w w') : OwnSh w' B v l := by
  cases e : v.ownBlock with
  | none => exact h.kept (row := none) ⟨hb.os, hb.tape, hb.output, hb.size, fun k hk _ => hb.block k hk⟩ (.inl e)
  | some k => exact h.kept (row := none) ⟨hb.os, hb.tape, hb.output, hb.size, fun k hk _ => hb.block k hk⟩ (.inr (by rw [e]; simp))
theorem OwnSh.at_ {w : World} {B : Nat} {v : Value} {l : List Sh} (h : OwnSh w B v l) : ShAt w w.heap.size v l := ShAt.of_own h
theorem OwnSh.free {w : World} {B : Nat} {v : Value} {l : List Sh} (h : OwnSh w B v l) :
    (v = .slice none 0 0 ∧ l.length = 0) ∨ ∃ g cap cur, v.ownBlock = some g ∧ B ≤ g ∧ v = .slice (some ⟨g, 0, none⟩) l.length cap ∧ l.length ≤ cap ∧ cap ≤ maxLen ∧ Own w g 24 cur ∧ l.length * 3 ≤ cur.size := by
  rcases h.2 with ⟨rfl, hn⟩ | ⟨g, cap, cur, hv, hb, hg, hnc, hcm, hsz, htk⟩
  · exact .inl ⟨rfl, hn⟩
  · exact .inr ⟨g, cap, cur, by rw [hv]; rfl, hb, hv, hnc, hcm, hg, by rw [hsz]; exact Nat.mul_le_mul_right _ hnc⟩
/-- what a call that makes a list of shells leaves -/
def RowEnd (l : List Sh) (w : World) (e : Ending) (w' : World) : Prop := ∃ v, e = .returned v ∧ OwnSh w' w.heap.size v l ∧ Below w.heap.size w w'

theorem own_here {w : World} {t : TypeId} {C : Array Value} {g : Nat} (h : g = w.heap.size) : Own (w.alloc (.cells C t)) g t C := by rw [h]; exact Own.new w t C

theorem app_shell {ops : Array Oper} {rest : List Oper} {o : Oper} {a : Act} {Q : Exit → Act → World → Prop} {w : World} (B : Nat) (hgd : o.guard = none) (ks kx : Nat)
    (ho : o.op = .call { callee := .builtin .append, args := #[.tmp ks, .tmp kx], argTypes := #[34, 34] })
    (v : Value) (l : List Sh) (hs : a.eval (.tmp ks) = v) (hown : OwnSh w B v l) (hB : B ≤ w.heap.size) (g : Nat) (s : Sh) (hx : a.eval (.tmp kx) = .slice (some ⟨g, 0, none⟩) 1 1)
    (hnew : Own w g 24 #[.int .i64 s.1, .int .i64 s.2.1, .int .i64 s.2.2]) (hl : l.length ≤ 16777216)
    (h : ∀ v' w', OwnSh w' B v' (l ++ [s]) → w.grownBy w' v.ownBlock → (v'.ownBlock = v.ownBlock ∨ v'.ownBlock = some w.heap.size) → wpList Tryd.prog ops Q rest (a.put o.dst v') w') :
    wpList Tryd.prog ops Q (o :: rest) a w := by
  obtain ⟨i0, hi, hz0, hz1, hz2⟩ := info_parts shInfo'
  refine wpList_append_own_at w hgd (.tmp ks) (.tmp kx) 34 ho B 24 i0 _ 3 24 Tryd.underlying34 hi hz0 hz1 hz2 rfl (by omega) v l.length (flat l) hs hown ⟨g, 0, none⟩ 1 1 (shCells s) hx rfl
    (World.news_of_block hnew) (by simp [shCells, Value.oneCell']) (by unfold maxLen; omega) (by omega) hB ?_
  intro v' w' h1 h2 h3 h4
  refine h v' w' ?_ h2 h4
  unfold OwnSh
  rw [flat_append, List.length_append, flat_one]
  exact h1

/-- the open shells among the first -/
def openUp (l : List Sh) : Nat → List Sh
  | 0 => []
  | k + 1 => if (l.getD k sh0).2.2 < cap (l.getD k sh0).2.1 then openUp l k ++ [l.getD k sh0] else openUp l k
def openL (l : List Sh) : List Sh := if cfgB l = true then openUp l l.length else []
theorem openUp_le (l : List Sh) (k : Nat) : (openUp l k).length ≤ k := by
  induction k with
  | zero => simp [openUp]
  | succ k ih =>
    unfold openUp
    split
    · simp; omega
    · omega



end Go.Proofs.YtgmdljlbiokcaaaDoor
