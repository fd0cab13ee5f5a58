import Derived.Test.YtgfkpddmjcgceaaVrQ
set_option linter.unusedVariables false
set_option linter.unusedSimpArgs false
namespace Go.Proofs.Ytgfkpddmjcgceaa.Kx
open Go.RowKit Go.Maps Go.Proofs.YtgfkpddmjcgceaaW.PrintWords

theorem below_on {a b c : World} (h : Below a.heap.size a b) (k : Below b.heap.size b c) : Below a.heap.size a c :=
  ((Fr.of_below (S := fun _ => False) h).below k).toBelow (fun _ h => h.elim) (Nat.le_refl _)
theorem below_new {a b : World} {o : Obj} (k : Below (a.alloc o).heap.size (a.alloc o) b) : Below a.heap.size a b := below_on (alloc_below a o) k
theorem ints_block {W : World} {g : Nat} {C : Array Value} {t : TypeId} (xs : List Int) (h : W.heap[g]? = some (.cells C t (0, 0))) (hC : ∀ j, j < xs.length → C[j]? = some (.int .i64 (xs.getD j 0))) (hl : xs.length ≤ 9223372036854775807) : (Kd.int .i64).C W (some ⟨g, 0, none⟩) xs.length xs :=
  Kd.C_of_reads (enc := Value.int .i64) (d := (0 : Int)) (h1 := fun _ => rfl) ⟨rfl, hl, fun _ => ⟨_, rfl, fun j hj => by
    have := cell_of_row W g j C t (0, 0) h
    rw [add_plain, this]
    exact hC j hj⟩⟩
/-- A run of the law, and its cells. -/
def rnOf (f s : Int) : Rn := ⟨f, 10, 1, [97], [98], s⟩
def rnV (f s : Int) (g1 g2 : Nat) : List Value := [.int .i64 f, .int .i64 10, .int .i64 1, .slice (some ⟨g1, 0, none⟩) 1 1, .slice (some ⟨g2, 0, none⟩) 1 1, .int .u64 s]
theorem rnV_K {W : World} {f s : Int} {g1 g2 : Nat} (h1 : By W (some ⟨g1, 0, none⟩) [97]) (h2 : By W (some ⟨g2, 0, none⟩) [98]) : kRn.K W (rnOf f s) (rnV f s g1 g2) :=
  kRn_mk W (rnOf f s) (c3 := 1) (c4 := 1) (Nat.le_refl _) h1 (Nat.le_refl _) h2
theorem runs_one {W : World} {g : Nat} {C : Array Value} {t : TypeId} {r : Rn} {cs : List Value} (h : W.heap[g]? = some (.cells C t (0, 0))) (hl : cs.length = 6) (hC : ∀ (i : Nat) (u : Value), cs[i]? = some u → C[i]? = some u) (hK : kRn.K W r cs) : kRn.C W (some ⟨g, 0, none⟩) [r].length [r] :=
  ⟨rfl, by simp, fun _ => ⟨_, rfl, fun j p hj => by
    cases j with
    | zero =>
      have : r = p := by simpa using hj
      subst this
      refine ⟨cs, hl, hK, fun i u hu => ?_⟩
      rw [add_plain, cell_of_row W g _ C t (0, 0) h]
      simpa using hC i u hu
    | succ j => simp at hj⟩⟩
theorem runs_three {W : World} {g : Nat} {C : Array Value} {t : TypeId} {r1 r2 r3 : Rn} {c1 c2 c3 : List Value} (h : W.heap[g]? = some (.cells C t (0, 0))) (l1 : c1.length = 6) (l2 : c2.length = 6) (l3 : c3.length = 6) (h1 : ∀ (i : Nat) (u : Value), c1[i]? = some u → C[i]? = some u) (h2 : ∀ (i : Nat) (u : Value), c2[i]? = some u → C[6 + i]? = some u) (h3 : ∀ (i : Nat) (u : Value), c3[i]? = some u → C[12 + i]? = some u)
    (k1 : kRn.K W r1 c1) (k2 : kRn.K W r2 c2) (k3 : kRn.K W r3 c3) : kRn.C W (some ⟨g, 0, none⟩) [r1, r2, r3].length [r1, r2, r3] :=
  ⟨rfl, by simp, fun _ => ⟨_, rfl, fun j p hj => by
    have hz : kRn.sz = 6 := rfl
    match j, hj with
    | 0, hj =>
      have : r1 = p := by simpa using hj
      subst this
      refine ⟨c1, l1, k1, fun i u hu => ?_⟩
      rw [add_plain, cell_of_row W g _ C t (0, 0) h]
      simpa using h1 i u hu
    | 1, hj =>
      have : r2 = p := by simpa using hj
      subst this
      refine ⟨c2, l2, k2, fun i u hu => ?_⟩
      rw [add_plain, cell_of_row W g _ C t (0, 0) h, hz]
      simpa using h2 i u hu
    | 2, hj =>
      have : r3 = p := by simpa using hj
      subst this
      refine ⟨c3, l3, k3, fun i u hu => ?_⟩
      rw [add_plain, cell_of_row W g _ C t (0, 0) h, hz]
      simpa using h3 i u hu
    | j + 3, hj => simp at hj⟩⟩
theorem nest1 {w W : World} {o1 : Obj} (h : Below (w.alloc o1).heap.size (w.alloc o1) W) : Below w.heap.size w W ∧ W.heap[w.heap.size]? = some o1 := by
  have h1 : Below (w.alloc o1).heap.size (w.alloc o1) W := h
  have g1 : W.heap[w.heap.size]? = some o1 := heap_newb h1
  have h0 : Below w.heap.size w W := below_new h1
  exact ⟨h0, g1⟩
theorem nest2 {w W : World} {o1 o2 : Obj} (h : Below ((w.alloc o1).alloc o2).heap.size ((w.alloc o1).alloc o2) W) : Below w.heap.size w W ∧ W.heap[w.heap.size]? = some o1 ∧ W.heap[w.heap.size + 1]? = some o2 := by
  have h2 : Below ((w.alloc o1).alloc o2).heap.size ((w.alloc o1).alloc o2) W := h
  have g2 : W.heap[(w.alloc o1).heap.size]? = some o2 := heap_newb h2
  have h1 : Below (w.alloc o1).heap.size (w.alloc o1) W := below_new h2
  have g1 : W.heap[w.heap.size]? = some o1 := heap_newb h1
  have h0 : Below w.heap.size w W := below_new h1
  rw [show (w.alloc o1).heap.size = w.heap.size + 1 by simp] at g2
  exact ⟨h0, g1, g2⟩
theorem nest4 {w W : World} {o1 o2 o3 o4 : Obj} (h : Below ((((w.alloc o1).alloc o2).alloc o3).alloc o4).heap.size ((((w.alloc o1).alloc o2).alloc o3).alloc o4) W) : Below w.heap.size w W ∧ W.heap[w.heap.size]? = some o1 ∧ W.heap[w.heap.size + 1]? = some o2 ∧ W.heap[w.heap.size + 1 + 1]? = some o3 ∧ W.heap[w.heap.size + 1 + 1 + 1]? = some o4 := by
  have h4 : Below ((((w.alloc o1).alloc o2).alloc o3).alloc o4).heap.size ((((w.alloc o1).alloc o2).alloc o3).alloc o4) W := h
  have g4 : W.heap[(((w.alloc o1).alloc o2).alloc o3).heap.size]? = some o4 := heap_newb h4
  have h3 : Below (((w.alloc o1).alloc o2).alloc o3).heap.size (((w.alloc o1).alloc o2).alloc o3) W := below_new h4
  have g3 : W.heap[((w.alloc o1).alloc o2).heap.size]? = some o3 := heap_newb h3
  have h2 : Below ((w.alloc o1).alloc o2).heap.size ((w.alloc o1).alloc o2) W := below_new h3
  have g2 : W.heap[(w.alloc o1).heap.size]? = some o2 := heap_newb h2
  have h1 : Below (w.alloc o1).heap.size (w.alloc o1) W := below_new h2
  have g1 : W.heap[w.heap.size]? = some o1 := heap_newb h1
  have h0 : Below w.heap.size w W := below_new h1
  rw [show (w.alloc o1).heap.size = w.heap.size + 1 by simp] at g2
  rw [show ((w.alloc o1).alloc o2).heap.size = w.heap.size + 1 + 1 by simp] at g3
  rw [show (((w.alloc o1).alloc o2).alloc o3).heap.size = w.heap.size + 1 + 1 + 1 by simp] at g4
  exact ⟨h0, g1, g2, g3, g4⟩
theorem nest5 {w W : World} {o1 o2 o3 o4 o5 : Obj} (h : Below (((((w.alloc o1).alloc o2).alloc o3).alloc o4).alloc o5).heap.size (((((w.alloc o1).alloc o2).alloc o3).alloc o4).alloc o5) W) : Below w.heap.size w W ∧ W.heap[w.heap.size]? = some o1 ∧ W.heap[w.heap.size + 1]? = some o2 ∧ W.heap[w.heap.size + 1 + 1]? = some o3 ∧ W.heap[w.heap.size + 1 + 1 + 1]? = some o4 ∧ W.heap[w.heap.size + 1 + 1 + 1 + 1]? = some o5 := by
  have h5 : Below (((((w.alloc o1).alloc o2).alloc o3).alloc o4).alloc o5).heap.size (((((w.alloc o1).alloc o2).alloc o3).alloc o4).alloc o5) W := h
  have g5 : W.heap[((((w.alloc o1).alloc o2).alloc o3).alloc o4).heap.size]? = some o5 := heap_newb h5
  have h4 : Below ((((w.alloc o1).alloc o2).alloc o3).alloc o4).heap.size ((((w.alloc o1).alloc o2).alloc o3).alloc o4) W := below_new h5
  have g4 : W.heap[(((w.alloc o1).alloc o2).alloc o3).heap.size]? = some o4 := heap_newb h4
  have h3 : Below (((w.alloc o1).alloc o2).alloc o3).heap.size (((w.alloc o1).alloc o2).alloc o3) W := below_new h4
  have g3 : W.heap[((w.alloc o1).alloc o2).heap.size]? = some o3 := heap_newb h3
  have h2 : Below ((w.alloc o1).alloc o2).heap.size ((w.alloc o1).alloc o2) W := below_new h3
  have g2 : W.heap[(w.alloc o1).heap.size]? = some o2 := heap_newb h2
  have h1 : Below (w.alloc o1).heap.size (w.alloc o1) W := below_new h2
  have g1 : W.heap[w.heap.size]? = some o1 := heap_newb h1
  have h0 : Below w.heap.size w W := below_new h1
  rw [show (w.alloc o1).heap.size = w.heap.size + 1 by simp] at g2
  rw [show ((w.alloc o1).alloc o2).heap.size = w.heap.size + 1 + 1 by simp] at g3
  rw [show (((w.alloc o1).alloc o2).alloc o3).heap.size = w.heap.size + 1 + 1 + 1 by simp] at g4
  rw [show ((((w.alloc o1).alloc o2).alloc o3).alloc o4).heap.size = w.heap.size + 1 + 1 + 1 + 1 by simp] at g5
  exact ⟨h0, g1, g2, g3, g4, g5⟩
theorem wp_named4 {P : Program} {c : Code} {Q : Exit → Act → World → Prop} {a : Act} {w : World} {o1 o2 o3 o4 : Obj}
    (h : ∀ W, Below w.heap.size w W → W.heap[w.heap.size]? = some o1 → W.heap[w.heap.size + 1]? = some o2 → W.heap[w.heap.size + 1 + 1]? = some o3 → W.heap[w.heap.size + 1 + 1 + 1]? = some o4 → c.wp P Q a W) : c.wp P Q a ((((w.alloc o1).alloc o2).alloc o3).alloc o4) := by
  obtain ⟨h0, g1, g2, g3, g4⟩ := nest4 (w := w) (o1 := o1) (o2 := o2) (o3 := o3) (o4 := o4) (Below.refl _ _)
  exact h _ h0 g1 g2 g3 g4
theorem run_cells {W : World} {g : Nat} {f s : Int} {p q : Nat} {t : TypeId} (h : W.heap[g]? = some (.cells #[.int .i64 f, .int .i64 10, .int .i64 1, .slice (some ⟨p, 0, none⟩) 1 1, .slice (some ⟨q, 0, none⟩) 1 1, .int .u64 s] t (0, 0))) :
    W.cell? ⟨g, 0, none⟩ = some (.int .i64 f) ∧ W.cell? ⟨g, 1, none⟩ = some (.int .i64 10) ∧ W.cell? ⟨g, 2, none⟩ = some (.int .i64 1) ∧ W.cell? ⟨g, 3, none⟩ = some (.slice (some ⟨p, 0, none⟩) 1 1) ∧ W.cell? ⟨g, 4, none⟩ = some (.slice (some ⟨q, 0, none⟩) 1 1) ∧ W.cell? ⟨g, 5, none⟩ = some (.int .u64 s) :=
  ⟨cells_top h 0 _ rfl, cells_top h 1 _ rfl, cells_top h 2 _ rfl, cells_top h 3 _ rfl, cells_top h 4 _ rfl, cells_top h 5 _ rfl⟩
end Go.Proofs.Ytgfkpddmjcgceaa.Kx
