import Derived.Test.YtinffeffffligaaProg
import Derived.WalkKit
import Derived.WalkSmall
import Derived.WalkSpells
import Derived.Maps.OwnSet
import Derived.Maps.RangeWalk
import Derived.Deep.LoopGhost
import Derived.Deep.QuietTactic
import Derived.BigQuiet
import Derived.BigRegion
import Derived.KernelRfl
import Derived.Laws.BytesArg
import Derived.Laws.AppendOwnNone
import Derived.Lib.ConvBytes
import Derived.Lib.Hide
import Derived.Lib.SlBytesConst
import Derived.Lib.Bytealg
import Derived.Lib.BytesEntry
import Derived.Laws.Externs
set_option linter.unusedVariables false
set_option linter.unusedSimpArgs false
namespace Go.Proofs.Ytinffeffffligaa.Bas
open Go.RowKit Go.Maps

theorem ret_bool {a b : Bool} (h : a = b) : Ending.returned (.bool a) = .returned (.bool b) := by rw [h]
theorem ret_int {k : IntKind} {a b : Int} (h : a = b) : Ending.returned (.int k a) = .returned (.int k b) := by rw [h]
/-- A fact that the walk does not see. -/
structure Kp (p : Prop) : Prop where mk :: (out : p)

theorem max2_int (k : IntKind) (x y : Int) : Builtin.max2 (.int k x) (.int k y) = pure (.int k (max x y)) := by
  simp only [Builtin.max2]
  congr 2
  rw [Int.max_def]; split <;> split <;> omega
theorem min2_int (k : IntKind) (x y : Int) : Builtin.min2 (.int k x) (.int k y) = pure (.int k (min x y)) := by
  simp only [Builtin.min2]
  congr 2
  rw [Int.min_def]; split <;> split <;> omega
theorem max_two (ats : Array TypeId) (ty : TypeId) (a b : Value) : Builtin.max_ ats ty #[a, b] = (Builtin.max2 a b >>= fun s => pure s) := by simp only [Builtin.max_, List.foldlM_cons, List.foldlM_nil]
theorem min_two (ats : Array TypeId) (ty : TypeId) (a b : Value) : Builtin.min_ ats ty #[a, b] = (Builtin.min2 a b >>= fun s => pure s) := by simp only [Builtin.min_, List.foldlM_cons, List.foldlM_nil]

/-! ### What is kept: all but the blocks of S -/
structure Fr (w W : World) (S : Nat → Prop) : Prop where
  os : W.os = w.os
  tape : W.tape = w.tape
  output : W.output = w.output
  size : w.heap.size ≤ W.heap.size
  block : ∀ k, k < w.heap.size → ¬ S k → W.heap[k]? = w.heap[k]?
section
variable {w W W2 : World} {S S2 : Nat → Prop}
theorem Fr.refl (w : World) (S : Nat → Prop) : Fr w w S := ⟨rfl, rfl, rfl, Nat.le_refl _, fun _ _ _ => rfl⟩
theorem Fr.mono (h : Fr w W S) (hs : ∀ k, k < w.heap.size → S k → S2 k) : Fr w W S2 := ⟨h.os, h.tape, h.output, h.size, fun k hk hn => h.block k hk (fun hS => hn (hs k hk hS))⟩
theorem Fr.trans (h : Fr w W S) (k : Fr W W2 S2) (hs : ∀ k, S2 k → S k ∨ w.heap.size ≤ k) : Fr w W2 S :=
  ⟨k.os.trans h.os, k.tape.trans h.tape, k.output.trans h.output, Nat.le_trans h.size k.size, fun i hi hn => (k.block i (Nat.lt_of_lt_of_le hi h.size) (fun h2 => (hs i h2).elim hn (fun h3 => by omega))).trans (h.block i hi hn)⟩
theorem Fr.of_below (h : Below w.heap.size w W) : Fr w W S := ⟨h.os, h.tape, h.output, h.size, fun k hk _ => h.block k hk⟩
theorem Fr.below (h : Fr w W S) (hb : Below W.heap.size W W2) : Fr w W2 S := h.trans (Fr.of_below (S := fun _ => False) hb) (fun _ hk => hk.elim)
theorem Fr.alloc (h : Fr w W S) (o : Obj) : Fr w (W.alloc o) S := h.below ((Below.refl _ _).alloc (Nat.le_refl _) o)
theorem Fr.drew (h : Fr w W S) : Fr w W.drew S := h.below ((Below.refl _ _).drew)
theorem Fr.drewN (h : Fr w W S) (n : Nat) : Fr w (W.drewN n) S := h.below (below_drewN (Below.refl _ _) n)
theorem Fr.grown {row : Option Nat} (h : Fr w W S) (hg : W.grownBy W2 row) (hr : ∀ k, row = some k → S k ∨ w.heap.size ≤ k) : Fr w W2 S :=
  h.trans (S2 := fun k => row = some k) ⟨hg.os, hg.tape, hg.output, hg.size, fun k hk hn => hg.block k hk (fun e => hn e.symm)⟩ hr
theorem Fr.setCell (h : Fr w W S) {a : Addr} (ha : S a.block ∨ w.heap.size ≤ a.block) (u : Value) : Fr w (W.setCell a u) S :=
  h.trans (S2 := fun k => k = a.block) ⟨rfl, rfl, rfl, by simp [World.setCell], fun k _ hn => Below.heap_setCell W a u k hn⟩ (fun k hk => by rw [hk]; exact ha)
theorem Fr.turned {b : Nat} (h : Fr w W S) (ht : W.mapTurned W2 b) (hb : S b ∨ w.heap.size ≤ b) : Fr w W2 S :=
  h.grown ht.grown (fun k hk => by cases hk; exact hb)
/-- Nothing elder than B has turned. -/
theorem Fr.toBelow {B : Nat} (h : Fr w W S) (hB : ∀ k, S k → B ≤ k) (hle : B ≤ w.heap.size) : Below B w W :=
  ⟨h.os, h.tape, h.output, h.size, fun k hk => h.block k (by omega) (fun hS => by have := hB k hS; omega)⟩
theorem Fr.cell (h : Fr w W S) {a : Addr} {v : Value} (hc : w.cell? a = some v) (hS : ¬ S a.block) : W.cell? a = some v := by
  have := h.block a.block (World.block_lt_of_cell? w a hc) hS
  simpa [World.cell?, this] using hc
end

/-! ### A slice of whole numbers that is read -/
structure Rd (w : World) (k : IntKind) (A : Option Addr) (n c : Nat) (xs : List Int) : Prop where
  len : xs.length = n
  max : n ≤ 140737488355328
  nil : A = none → n = 0 ∧ c = 0
  cell : 0 < n → ∃ ad, A = some ad ∧ ∀ j, j < n → w.cell? (ad.add j) = some (.int k (xs.getD j 0))
theorem Rd.kept {w W : World} {k : IntKind} {A : Option Addr} {n c : Nat} {xs : List Int} {S : Nat → Prop} (h : Rd w k A n c xs) (hf : Fr w W S) (hS : ∀ ad, A = some ad → 0 < n → ¬ S ad.block) : Rd W k A n c xs :=
  ⟨h.len, h.max, h.nil, fun hn => by
    obtain ⟨ad, rfl, hc⟩ := h.cell hn
    exact ⟨ad, rfl, fun j hj => hf.cell (hc j hj) (by have := hS ad rfl hn; unfold Addr.add; split <;> exact this)⟩⟩

def nums (k : IntKind) (xs : List Int) : List Value := xs.map (Value.int k)
theorem row_slice {w : World} {B e n : Nat} {v : Value} {xs : List Value} (h : w.ownsRow B e 1 v n xs) : ∃ A c, v = .slice A n c := by
  rcases h.2 with ⟨e1, e2⟩ | ⟨q, cap, cur, e1, _⟩
  · exact ⟨none, 0, by rw [e1, e2]⟩
  · exact ⟨_, _, e1⟩

theorem alloc_below (w : World) (o : Obj) : Below w.heap.size w (w.alloc o) := (Below.refl _ _).alloc (Nat.le_refl _) o
theorem row_heap {w W : World} {B e n : Nat} {v : Value} {xs : List Value} (h : w.ownsRow B e 1 v n xs) (hk : ∀ k, v.ownBlock = some k → W.heap[k]? = w.heap[k]?) : W.ownsRow B e 1 v n xs := by
  obtain ⟨h1, h2⟩ := h
  refine ⟨h1, ?_⟩
  rcases h2 with h2 | ⟨g, cap, cur, hv, hg, hh, r⟩
  · exact .inl h2
  · exact .inr ⟨g, cap, cur, hv, hg, by rw [hk g (by rw [hv]; rfl)]; exact hh, r⟩
theorem cells_top {w : World} {g : Nat} {cs : Array Value} {t : TypeId} (h : w.heap[g]? = some (.cells cs t (0, 0))) (j : Nat) (v : Value) (hv : cs[j]? = some v) : w.cell? ⟨g, j, none⟩ = some v := by
  rw [cell_of_row w g j cs t (0, 0) h]; exact hv
theorem own_empty (w : World) (e : TypeId) : (w.alloc (.cells #[] e)).ownsRow w.heap.size e 1 (.slice (some ⟨w.heap.size, 0, none⟩) 0 0) 0 [] :=
  ⟨rfl, .inr ⟨w.heap.size, 0, #[], rfl, Nat.le_refl _, heap_alloc_new w _, Nat.le_refl _, by unfold maxLen; omega, rfl, rfl⟩⟩
theorem Rd.below {w W : World} {k : IntKind} {A : Option Addr} {n c : Nat} {xs : List Int} (h : Rd w k A n c xs) (hb : Below w.heap.size w W) : Rd W k A n c xs :=
  h.kept (S := fun _ => False) (Fr.of_below hb) (fun _ _ _ h => h)

theorem Rd.nil0 (w : World) (k : IntKind) : Rd w k none 0 0 [] := ⟨rfl, by omega, fun _ => ⟨rfl, rfl⟩, fun h => absurd h (by omega)⟩
theorem Rd.lt {w : World} {k : IntKind} {A : Option Addr} {n c : Nat} {xs : List Int} (h : Rd w k A n c xs) : ∀ ad, A = some ad → 0 < n → ad.block < w.heap.size := by
  intro ad e hn
  obtain ⟨ad', e', hc⟩ := h.cell hn
  rw [e] at e'; cases e'
  have := World.block_lt_of_cell? w _ (hc 0 hn)
  unfold Addr.add at this
  split at this <;> exact this

theorem Rd.take {w : World} {k : IntKind} {A : Option Addr} {n c m : Nat} {xs : List Int} (h : Rd w k A n c xs) (hm : m ≤ n) : Rd w k A m c (xs.take m) :=
  ⟨by rw [List.length_take, h.len]; omega, Nat.le_trans hm h.max, fun e => by have := h.nil e; exact ⟨by omega, this.2⟩, fun hp => by
    obtain ⟨ad, e, hc⟩ := h.cell (by omega)
    exact ⟨ad, e, fun j hj => by rw [hc j (by omega)]; have := h.len; simp [List.getD, List.getElem?_take_of_lt hj]⟩⟩
theorem strOfNums_append (a b : List Int) : strOfNums (a ++ b) = strOfNums a ++ strOfNums b := by
  unfold strOfNums
  apply ByteArray.ext
  simp

theorem free_top {w : World} {g : Nat} {cs : Array Value} {t : TypeId} (h : w.heap[g]? = some (.cells cs t (0, 0))) (j : Nat) : w.frozen? ⟨g, j, none⟩ = false := frozen_of_row w g j cs t h
end Go.Proofs.Ytinffeffffligaa.Bas
