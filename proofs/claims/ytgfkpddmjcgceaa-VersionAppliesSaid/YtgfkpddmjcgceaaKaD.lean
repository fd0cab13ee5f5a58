import Derived.Test.YtgfkpddmjcgceaaKaA
import Derived.Maps.Views
set_option linter.unusedVariables false
set_option linter.unusedSimpArgs false
namespace Go.Proofs.Ytgfkpddmjcgceaa.Kx
open Go.RowKit Go.Maps Go.Proofs.YtgfkpddmjcgceaaW.PrintWords

/-! ### A set of whole numbers, kept as a map to bool that the call made -/
theorem mapKey : Keyed Try.prog 3 := int_keyed Try.underlying3
theorem zeroB (w : World) : (zeroValue 4).run Try.prog w = .ok (.bool false) w := by kernel_rfl
def OwnSet (w : World) (b : Nat) (s : List Int) : Prop :=
  ∃ D : DataW Unit, w.ownsMap Try.prog 3 (plainElem Try.prog 4) b s.length D ∧ ∀ x, (Lit.int .i64 x).wf = true → D.atKey (.int .i64 x) (.lit (.bool false)) = .lit (.bool (decide (x ∈ s)))
theorem OwnSet.lt {w : World} {b : Nat} {s : List Int} (h : OwnSet w b s) : b < w.heap.size := by
  obtain ⟨D, hD, _⟩ := h
  exact hD.lt
theorem OwnSet.step {w W : World} {b : Nat} {s : List Int} (h : OwnSet w b s) (hb : W.heap[b]? = w.heap[b]?) : OwnSet W b s := by
  obtain ⟨D, ⟨es, clock, hh, F, hs, hD⟩, hat⟩ := h
  exact ⟨D, ⟨es, clock, hb.trans hh, F, hs, hD⟩, hat⟩
theorem OwnSet.below {w W : World} {b : Nat} {s : List Int} (h : OwnSet w b s) (hb : Below w.heap.size w W) : OwnSet W b s := h.step (hb.block b h.lt)
theorem OwnSet.made (w : World) : OwnSet (w.alloc (.map #[] 0)) w.heap.size [] :=
  ⟨.map [], World.ownsMap_made _ _ _ _, fun x _ => by simp [DataW.atKey]⟩
theorem OwnSet.made' {w : World} {b : Nat} (hb : w.heap.size = b) : OwnSet (w.alloc (.map #[] 0)) b [] := by
  subst hb
  exact OwnSet.made w
theorem OwnSet.look {w : World} {b : Nat} {s : List Int} (h : OwnSet w b s) {x : Int} (hx : (Lit.int .i64 x).wf = true) :
    (Instr.lookup 62 (.map (some b)) (.int .i64 x) false).run Try.prog w = .ok (.bool (decide (x ∈ s))) w := by
  obtain ⟨D, hD, hat⟩ := h
  obtain ⟨v, ps, hrun, hv⟩ := hD.lookup mapKey Try.underlying62 (zeroB w) (plainElem_bool (H := Unit) Try.underlying4 false) (keyOf_int_mk Try.underlying3 hx)
  rw [hrun]
  rw [hat x hx] at hv
  unfold plainElem at hv
  rw [Try.underlying4] at hv
  cases v <;> simp at hv
  rw [hv.1]
theorem wpList_set_look {w : World} {ops : Array Oper} {rest : List Oper} {o : Oper} {a : Act} {Q : Exit → Act → World → Prop}
    (hg : Region.wanted o (yielded ops a.tmps) = true) (m x : Operand) (hop : o.op = Op.lookup 62 m x false) (b : Nat) (s : List Int) (k : Int)
    (hm : a.eval m = .map (some b)) (hown : OwnSet w b s) (hx : a.eval x = .int .i64 k) (hk : (Lit.int .i64 k).wf = true)
    (hK : wpList Try.prog ops Q rest (a.put o.dst (.bool (decide (k ∈ s)))) w) :
    wpList Try.prog ops Q (o :: rest) a w := by
  refine wpList_step fun K' hK' => ?_
  rw [if_pos hg]
  unfold Oper.wp
  simp [execOp, hop, hm, hx, hown.look hk, Result.andThen]
  exact hK' _ _ hK
theorem wpList_set_put {w : World} {ops : Array Oper} {rest : List Oper} {o : Oper} {a : Act} {Q : Exit → Act → World → Prop}
    (hg : o.guard = none) (m x v : Operand) (hop : o.op = Op.mapUpdate 62 m x v) (b : Nat) (s : List Int) (k : Int)
    (hm : a.eval m = .map (some b)) (hown : OwnSet w b s) (hx : a.eval x = .int .i64 k) (hv : a.eval v = .bool true) (hk : (Lit.int .i64 k).wf = true) (hn : s.length < 100000)
    (hK : ∀ w', OwnSet w' b (s ++ [k]) → w.grownBy w' (some b) → wpList Try.prog ops Q rest (a.put o.dst undef) w') :
    wpList Try.prog ops Q (o :: rest) a w := by
  obtain ⟨D, hD, hat⟩ := hown
  refine wpList_mapUpdate_own w hg m x v _ hop _ _ mapKey Try.underlying62 _ b _ D hm hD (by unfold maxLen; omega) _ _ _ hx hv (keyOf_int_mk Try.underlying3 hk) _ [] (plainElem_bool Try.underlying4 true) ?_
  intro w' h1 h2
  refine hK w' ⟨_, by rw [List.length_append]; exact h1, fun y hy => ?_⟩ h2
  by_cases e : y = k
  · subst e
    rw [atKey_put_same hD.isMap (by trivial)]
    simp
  · rw [atKey_put_other (by intro h; injection h with _ h; exact e h), hat y hy]
    simp [e]
end Go.Proofs.Ytgfkpddmjcgceaa.Kx
