import Derived.Test.YtgfkpddmjcgceaaKaA
set_option linter.unusedVariables false
set_option linter.unusedSimpArgs false
namespace Go.Proofs.Ytgfkpddmjcgceaa.Kx
open Go.RowKit Go.Maps Go.Proofs.YtgfkpddmjcgceaaW.PrintWords

/-! ### What is kept: all but the blocks of S -/
structure Fr (w W : World) (S : Nat → Prop) : Prop where
  os : W.os = w.os
  tape : W.tape = w.tape
  output : W.output = w.output
  size : w.heap.size ≤ W.heap.size
  block : ∀ k, k < w.heap.size → ¬ S k → W.heap[k]? = w.heap[k]?
section
variable {w W W2 : World} {S S2 : Nat → Prop}
theorem Fr.refl (w : World) (S : Nat → Prop) : Fr w w S := ⟨rfl, rfl, rfl, Nat.le_refl _, fun _ _ _ => rfl⟩
theorem Fr.mono (h : Fr w W S) (hs : ∀ k, k < w.heap.size → S k → S2 k) : Fr w W S2 := ⟨h.os, h.tape, h.output, h.size, fun k hk hn => h.block k hk (fun hS => hn (hs k hk hS))⟩
theorem Fr.trans (h : Fr w W S) (k : Fr W W2 S2) (hs : ∀ k, S2 k → S k ∨ w.heap.size ≤ k) : Fr w W2 S :=
  ⟨k.os.trans h.os, k.tape.trans h.tape, k.output.trans h.output, Nat.le_trans h.size k.size, fun i hi hn => (k.block i (Nat.lt_of_lt_of_le hi h.size) (fun h2 => (hs i h2).elim hn (fun h3 => by omega))).trans (h.block i hi hn)⟩
theorem Fr.of_below (h : Below w.heap.size w W) : Fr w W S := ⟨h.os, h.tape, h.output, h.size, fun k hk _ => h.block k hk⟩
theorem Fr.below (h : Fr w W S) (hb : Below W.heap.size W W2) : Fr w W2 S := h.trans (Fr.of_below (S := fun _ => False) hb) (fun _ hk => hk.elim)
theorem Fr.alloc (h : Fr w W S) (o : Obj) : Fr w (W.alloc o) S := h.below ((Below.refl _ _).alloc (Nat.le_refl _) o)
theorem Fr.drew (h : Fr w W S) : Fr w W.drew S := h.below ((Below.refl _ _).drew)
theorem Fr.drewN (h : Fr w W S) (n : Nat) : Fr w (W.drewN n) S := h.below (pw_below_drewN (Below.refl _ _) n)
theorem Fr.grown {row : Option Nat} (h : Fr w W S) (hg : W.grownBy W2 row) (hr : ∀ k, row = some k → S k ∨ w.heap.size ≤ k) : Fr w W2 S :=
  h.trans (S2 := fun k => row = some k) ⟨hg.os, hg.tape, hg.output, hg.size, fun k hk hn => hg.block k hk (fun e => hn e.symm)⟩ hr
theorem Fr.setCell (h : Fr w W S) {a : Addr} (ha : S a.block ∨ w.heap.size ≤ a.block) (u : Value) : Fr w (W.setCell a u) S :=
  h.trans (S2 := fun k => k = a.block) ⟨rfl, rfl, rfl, by simp [World.setCell], fun k _ hn => Below.heap_setCell W a u k hn⟩ (fun k hk => by rw [hk]; exact ha)
theorem Fr.turned {b : Nat} (h : Fr w W S) (ht : W.mapTurned W2 b) (hb : S b ∨ w.heap.size ≤ b) : Fr w W2 S :=
  h.grown ht.grown (fun k hk => by cases hk; exact hb)
/-- Nothing elder than B has turned. -/
theorem Fr.toBelow {B : Nat} (h : Fr w W S) (hB : ∀ k, S k → B ≤ k) (hle : B ≤ w.heap.size) : Below B w W :=
  ⟨h.os, h.tape, h.output, h.size, fun k hk => h.block k (by omega) (fun hS => by have := hB k hS; omega)⟩
theorem Fr.cell (h : Fr w W S) {a : Addr} {v : Value} (hc : w.cell? a = some v) (hS : ¬ S a.block) : W.cell? a = some v := by
  have := h.block a.block (World.block_lt_of_cell? w a hc) hS
  simpa [World.cell?, this] using hc
end


theorem cells_top {w : World} {g : Nat} {cs : Array Value} {t : TypeId} (h : w.heap[g]? = some (.cells cs t (0, 0))) (j : Nat) (v : Value) (hv : cs[j]? = some v) : w.cell? ⟨g, j, none⟩ = some v := by
  rw [cell_of_row w g j cs t (0, 0) h]; exact hv
theorem free_top {w : World} {g : Nat} {cs : Array Value} {t : TypeId} (h : w.heap[g]? = some (.cells cs t (0, 0))) (j : Nat) : w.frozen? ⟨g, j, none⟩ = false := frozen_of_row w g j cs t h
theorem alloc_below (w : World) (o : Obj) : Below w.heap.size w (w.alloc o) := (Below.refl _ _).alloc (Nat.le_refl _) o
theorem cell_new (w : World) (C : Array Value) (t : TypeId) (j : Nat) (v : Value) (h : C[j]? = some v) : (w.alloc (.cells C t)).cell? ⟨w.heap.size, j, none⟩ = some v := cells_top (heap_alloc_new w _) j v h
theorem cell_newb {w W : World} {C : Array Value} {t : TypeId} (hb : Below (w.alloc (.cells C t)).heap.size (w.alloc (.cells C t)) W) (j : Nat) (v : Value) (h : C[j]? = some v) : W.cell? ⟨w.heap.size, j, none⟩ = some v := pw_cell_below hb (cell_new w C t j v h)
theorem heap_newb {w W : World} {o : Obj} (hb : Below (w.alloc o).heap.size (w.alloc o) W) : W.heap[w.heap.size]? = some o := (hb.block _ (by simp)).trans (heap_alloc_new w _)
theorem bcell {W w1 : World} (hb : Below W.heap.size W w1) : (∀ b o, b < W.heap.size → w1.cell? ⟨b, o, none⟩ = W.cell? ⟨b, o, none⟩) ∧ (∀ b o, b < W.heap.size → w1.frozen? ⟨b, o, none⟩ = W.frozen? ⟨b, o, none⟩) :=
  ⟨fun b o h => hb.cell (p := ⟨b, o, none⟩) h, fun b o h => hb.frozen (p := ⟨b, o, none⟩) h⟩
theorem wf_file {x : Int} (h1 : 0 ≤ x) (h2 : x ≤ 1099511627776) : (Lit.int .i64 x).wf = true := by
  simp [Lit.wf, IntKind.min, IntKind.max, IntKind.signed, IntKind.bits]; omega

/-! ### A region that draws its order, reads, and calls what makes memory: walked once, in whatever world that is as the old one below -/
structure Blw (w : World) where
  v : World
  h : Below w.heap.size w v
instance (w : World) : Inhabited (Blw w) := ⟨⟨w, Below.refl _ _⟩⟩
theorem wp_region_below {P : Program} {id : Nat} {Q : Exit → Act → World → Prop} {a : Act} {w : World} {l : List Oper} (hm : P.follows .mixedOrders = true) (hB : Region.lexB .any l.toArray = true)
    (h : wpQuiet P l.toArray (fun w' => ∃ p : Blw w, w' = p.v) (fun a' => ∀ w', (∃ p : Blw w, w' = p.v) → Q .normal a' w') l a) : (Code.region id l.toArray true).wp P Q a w :=
  wp_region_quiet (C := fun w' => ∃ p : Blw w, w' = p.v) hm hB ⟨⟨w.drew, (Below.refl _ _).drew⟩, rfl⟩ (by simpa using h)
theorem calls_blw {P : Program} {f : FuncId} {args : Array Value} {w : World} {p : Blw w} {v : Value} (h : Calls P f args p.v fun e w' => e = .returned v ∧ Below p.v.heap.size p.v w') :
    Calls P f args p.v fun e w'' => e = .returned v ∧ ∃ q : Blw w, w'' = q.v :=
  h.mono fun _ w' ⟨he, hb⟩ => ⟨he, ⟨w', below_then p.h p.h.size hb⟩, rfl⟩
theorem calls_blw_same {P : Program} {f : FuncId} {args : Array Value} {w : World} {p : Blw w} {v : Value} (h : Calls P f args p.v fun e w' => e = .returned v ∧ w' = p.v) :
    Calls P f args p.v fun e w'' => e = .returned v ∧ ∃ q : Blw w, w'' = q.v :=
  h.mono fun _ w' ⟨he, hw⟩ => ⟨he, p, hw⟩
theorem blw_cell {w : World} {a : Addr} {v : Value} (h : w.cell? a = some v) (p : Blw w) : p.v.cell? a = some v := pw_cell_below p.h h
end Go.Proofs.Ytgfkpddmjcgceaa.Kx
