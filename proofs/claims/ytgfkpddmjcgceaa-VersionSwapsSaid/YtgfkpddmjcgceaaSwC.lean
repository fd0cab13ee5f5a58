import Derived.Test.YtgfkpddmjcgceaaSwB
set_option linter.unusedVariables false
set_option linter.unusedSimpArgs false
namespace Go.Proofs.Ytgfkpddmjcgceaa.Kx
open Go.RowKit Go.Maps Go.Proofs.YtgfkpddmjcgceaaW.PrintWords

/-- A version that lies in block g. -/
structure Sw (w W : World) (g : Nat) (v nx sq : Value) (l : List Rn) : Prop where
  z : W.heap[g]? = some (.cells #[v, nx, .int .i64 0, sq] 27 (0, 0))
  r : kRn.R 42 W w.heap.size (fun _ => True) v l
  b : Below w.heap.size w W
theorem Sw.below {w W W2 : World} {g : Nat} {v nx sq : Value} {l : List Rn} (h : Sw w W g v nx sq l) (hb : Below W.heap.size W W2) : Sw w W2 g v nx sq l :=
  ⟨(hb.block _ (lt_of_block h.z)).trans h.z, Kd.R_below h.r hb, h.b.trans (hb.mono h.b.size)⟩
theorem Sw.cells {w W : World} {g : Nat} {v nx sq : Value} {l : List Rn} (h : Sw w W g v nx sq l) : W.cell? ⟨g, 0, none⟩ = some v ∧ W.cell? ⟨g, 1, none⟩ = some nx ∧ W.cell? ⟨g, 2, none⟩ = some (.int .i64 0) ∧ W.cell? ⟨g, 3, none⟩ = some sq :=
  ⟨cells_top h.z 0 _ rfl, cells_top h.z 1 _ rfl, cells_top h.z 2 _ rfl, cells_top h.z 3 _ rfl⟩
theorem drew_below (w : World) : Below w.heap.size w w.drew := (Below.refl _ _).drew
/-- A run in block q. -/
structure RunAt (W : World) (q : Nat) (f s : Int) : Prop where
  c : kRn.C W (some ⟨q, 0, none⟩) 1 [rnOf f s]
theorem RunAt.below {W W2 : World} {q : Nat} {f s : Int} (h : RunAt W q f s) (hb : Below W.heap.size W W2) : RunAt W2 q f s := ⟨Kd.C_below h.c hb⟩
theorem RunAt.made {W : World} {f s : Int} {g1 g2 : Nat} (h1 : By W (some ⟨g1, 0, none⟩) [97]) (h2 : By W (some ⟨g2, 0, none⟩) [98]) :
    RunAt (W.alloc (.cells #[.int .i64 f, .int .i64 10, .int .i64 1, .slice (some ⟨g1, 0, none⟩) 1 1, .slice (some ⟨g2, 0, none⟩) 1 1, .int .u64 s] 42)) W.heap.size f s :=
  ⟨runs_one (cs := rnV f s g1 g2) (heap_alloc_new W _) rfl (by intro i u h; rcases i with _|_|_|_|_|_|i <;> first | exact h | (simp [rnV] at h)) (rnV_K (Kd.C_alloc h1 _) (Kd.C_alloc h2 _))⟩
def SwQ (k : Nat) (W : World) (e : Ending) (w' : World) : Prop := ∃ A c, e = .returned (.tuple #[.agg #[.slice A k c, .int .i64 ((k : Int) + 1), .int .i64 0, .int .u64 (k : Int)], .int .i64 0]) ∧ kRn.R 42 w' W.heap.size (fun _ => True) (.slice A k c) (upR k) ∧ Below W.heap.size W w'
theorem swap_apply {w W : World} {g q k c c1 : Nat} {A : Option Addr} {nx sq : Value} (h : Sw w W g (.slice A (k - 1) c) nx sq (upR (k - 1))) (hc : k - 1 ≤ c) (hq : RunAt W q k k) (hk : 1 ≤ k) (hk2 : k ≤ 40) :
    Calls Try.prog 10 #[.agg #[.slice A (k - 1) c, .int .i64 (k : Int), .int .i64 0, .int .u64 ((k - 1 : Nat) : Int)], .agg #[.slice (some ⟨q, 0, none⟩) 1 c1, .slice none 0 0, .int .i64 ((k : Int) + 1), .int .i64 0, .int .u64 (k : Int)]] W (SwQ k W) := by
  obtain ⟨m, rfl⟩ : ∃ m, k = m + 1 := ⟨k - 1, by omega⟩
  simp only [Nat.add_sub_cancel] at *
  obtain ⟨A', c', he, hl, hC⟩ := Kd.R_reads h.r
  rw [upR_len] at he hC
  cases he
  have hx := step_x m (by omega)
  have ha := version_apply (w := W) (A := A) (A1 := some ⟨q, 0, none⟩) (A2 := none) (c := c) (c1 := c1) (c2 := 0) (rs := upR m) (add := [rnOf ((m + 1 : Nat) : Int) ((m + 1 : Nat) : Int)]) (drop := []) ((m + 1 : Nat) : Int) 0 m (((m + 1 : Nat) : Int) + 1) 0 ((m + 1 : Nat) : Int) (by rw [upR_len]; exact hC) (by rw [upR_len]; exact hc) hq.c (Kd.C_nil _ _) (by omega) (by omega)
  rw [upR_len] at ha
  refine ha.mono ?_
  rintro e w' ⟨x, l, a, b, cc, v, rfl, hR, hv, hb⟩
  have h1 : applyX (upR m) ((m + 1 : Nat) : Int) 0 m [rnOf ((m + 1 : Nat) : Int) ((m + 1 : Nat) : Int)] [] (((m + 1 : Nat) : Int) + 1) 0 ((m + 1 : Nat) : Int) 0 = 0 := by
    have := hx.1
    rw [show ((m : Int) + 1) = ((m + 1 : Nat) : Int) by omega, show ((m : Int) + 2) = ((m + 1 : Nat) : Int) + 1 by omega] at this
    exact this
  have h0 := apply_x hR (at_nil _)
  rw [h1] at h0
  subst h0
  obtain ⟨rfl, rfl, rfl, rfl⟩ := apply_out hR (at_nil _)
  have h2 : outL (upR m) [rnOf ((m + 1 : Nat) : Int) ((m + 1 : Nat) : Int)] [] 0 = upR (m + 1) := hx.2
  rw [h2] at hv
  obtain ⟨A3, c3, rfl⟩ := Kd.R_slice hv
  rw [upR_len] at hv ⊢
  refine ⟨A3, c3, ?_, hv, hb⟩
  have e1 : laterI ((m + 1 : Nat) : Int) (((m + 1 : Nat) : Int) + 1) = ((m + 1 : Nat) : Int) + 1 := by unfold laterI; rw [if_neg (by omega)]
  have e2 : laterI (0 : Int) 0 = 0 := rfl
  have e3 : outS (m : Int) ((m + 1 : Nat) : Int) = ((m + 1 : Nat) : Int) := by unfold outS; rw [if_pos (by omega)]
  rw [e1, e2, e3]
def SxQ (n a c : Nat) (W : World) (e : Ending) (w' : World) : Prop := ∃ A c', e = .returned (.tuple #[.agg #[.slice A (n - c + 1) c', .int .i64 ((n : Int) + 2), .int .i64 0, .int .u64 (n : Int)], .int .i64 0]) ∧ kRn.R 42 w' W.heap.size (fun _ => True) (.slice A (n - c + 1) c') (swL n a c) ∧ Below W.heap.size W w'
theorem swap_last {w W : World} {g q n a c cp c1 c2 : Nat} {A A2 : Option Addr} {nx sq : Value} (h : Sw w W g (.slice A n cp) nx sq (upR n)) (hc : n ≤ cp) (hq : RunAt W q ((n : Int) + 1) ((n : Int) - (a : Int))) (hd : (Kd.int .i64).C W A2 c (dropL n a c)) (hn : n ≤ 40) (hac : a + c ≤ n) (h1c : 1 ≤ c) :
    Calls Try.prog 10 #[.agg #[.slice A n cp, .int .i64 ((n : Int) + 1), .int .i64 0, .int .u64 (n : Int)], .agg #[.slice (some ⟨q, 0, none⟩) 1 c1, .slice A2 c c2, .int .i64 ((n : Int) + 2), .int .i64 0, .int .u64 0]] W (SxQ n a c W) := by
  obtain ⟨A', c', he, hl, hC⟩ := Kd.R_reads h.r
  rw [upR_len] at he hC
  cases he
  have e0 : ((n : Int) - (a : Int)) = ((n - a : Nat) : Int) := by omega
  have e4 : ((n : Int) + 1) = ((n + 1 : Nat) : Int) := by omega
  have e5 : ((n : Int) + 2) = ((n + 2 : Nat) : Int) := by omega
  rw [e0, e4] at hq
  rw [e4, e5]
  have ha := version_apply (w := W) (A := A) (A1 := some ⟨q, 0, none⟩) (A2 := A2) (c := cp) (c1 := c1) (c2 := c2) (rs := upR n) (add := [rnOf ((n + 1 : Nat) : Int) ((n - a : Nat) : Int)]) (drop := dropL n a c) ((n + 1 : Nat) : Int) 0 n ((n + 2 : Nat) : Int) 0 0 (by rw [upR_len]; exact hC) (by rw [upR_len]; exact hc) hq.c (by rw [dropL_len]; exact hd) (by omega) (by omega)
  rw [upR_len, dropL_len] at ha
  refine ha.mono ?_
  rintro e w' ⟨x, l, a', b, cc, v, rfl, hR, hv, hb⟩
  have hat := swL_at n a c hac h1c
  have h0 := apply_x hR hat
  rw [swL_x n a c hn hac h1c] at h0
  subst h0
  obtain ⟨rfl, rfl, rfl, rfl⟩ := apply_out hR hat
  have h2 : outL (upR n) [rnOf ((n + 1 : Nat) : Int) ((n - a : Nat) : Int)] (dropL n a c) a = swL n a c := rfl
  rw [h2] at hv
  obtain ⟨A3, c3, rfl⟩ := Kd.R_slice hv
  rw [swL_len n a c hac] at hv ⊢
  refine ⟨A3, c3, ?_, hv, hb⟩
  have e1 : laterI ((n + 1 : Nat) : Int) ((n + 2 : Nat) : Int) = ((n + 2 : Nat) : Int) := by unfold laterI; rw [if_neg (by omega)]
  have e2 : laterI (0 : Int) 0 = 0 := rfl
  have e3 : outS (n : Int) 0 = n := by unfold outS; rw [if_neg (by omega)]
  rw [e1, e2, e3, e5]
/-- A whole version is laid into block p: what was in block g stays. -/
theorem Sw.put {w W : World} {g p : Nat} {v nx sq : Value} {l : List Rn} {cs : Array Value} (h : Sw w W g v nx sq l) (hp : W.heap[p]? = some (.cells cs 27 (0, 0))) (hg : g < p) (hb : w.heap.size ≤ p) (a b c d : Value) :
    Sw w ((((W.setCell ⟨p, 0, none⟩ a).setCell ⟨p, 1, none⟩ b).setCell ⟨p, 2, none⟩ c).setCell ⟨p, 3, none⟩ d) g v nx sq l :=
  ⟨by
    rw [Below.heap_setCell _ ⟨p, 3, none⟩ d g (by show g ≠ p; omega), Below.heap_setCell _ ⟨p, 2, none⟩ c g (by show g ≠ p; omega), Below.heap_setCell _ ⟨p, 1, none⟩ b g (by show g ≠ p; omega), Below.heap_setCell _ ⟨p, 0, none⟩ a g (by show g ≠ p; omega)]
    exact h.z, put_R h.r hp a b c d, (((h.b.setCell (by show _ ≤ p; omega) _).setCell (by show _ ≤ p; omega) _).setCell (by show _ ≤ p; omega) _).setCell (by show _ ≤ p; omega) _⟩
/-- What is laid there. -/
theorem Sw.laid {w W : World} {p : Nat} {z0 z1 z2 z3 : Value} {l : List Rn} {v : Value} {B : Nat} (hb : Below w.heap.size w W) (hp : W.heap[p]? = some (.cells #[z0, z1, z2, z3] 27 (0, 0))) (hle : w.heap.size ≤ p) (hv : kRn.R 42 W B (fun _ => True) v l) (hB : w.heap.size ≤ B) (nx sq : Value) :
    Sw w ((((W.setCell ⟨p, 0, none⟩ v).setCell ⟨p, 1, none⟩ nx).setCell ⟨p, 2, none⟩ (.int .i64 0)).setCell ⟨p, 3, none⟩ sq) p v nx sq l :=
  ⟨laid4 hp _ _ _ _, Kd.R_lower (put_R hv hp _ _ _ _) hB, (((hb.setCell (by show _ ≤ p; omega) _).setCell (by show _ ≤ p; omega) _).setCell (by show _ ≤ p; omega) _).setCell (by show _ ≤ p; omega) _⟩
theorem Sw.fresh {w W : World} {l : List Rn} {v : Value} {B : Nat} (hb : Below w.heap.size w W) (hv : kRn.R 42 W B (fun _ => True) v l) (hB : w.heap.size ≤ B) (nx sq : Value) :
    Sw w (W.alloc (.cells #[v, nx, .int .i64 0, sq] 27)) W.heap.size v nx sq l :=
  ⟨heap_alloc_new W _, Kd.R_lower (Kd.R_alloc hv _) hB, hb.alloc hb.size _⟩
theorem Sw.grown {w W W1 : World} {g base : Nat} {v nx sq v2 : Value} {l : List Rn} {ys : List Int} (h : Sw w W g v nx sq l) (ho : (Kd.int .i64).R 3 W base (fun _ => True) v2 ys) (hb : Below w.heap.size w W1) (hg : W.grownBy W1 v2.ownBlock) : Sw w W1 g v nx sq l :=
  ⟨(hg.block _ (lt_of_block h.z) (fun e => Kd.R_ne ho h.z (by decide) e)).trans h.z, by
    obtain ⟨inner, hown⟩ := Kd.R_own ho
    have h2 : kRn.R 42 W w.heap.size (fun k => some k ≠ v2.ownBlock) v l := by
      cases hv : v2.ownBlock with
      | none => exact Kd.R_mono h.r (fun k _ => by simp)
      | some b =>
        obtain ⟨cells, hc⟩ := own_typed hown b hv
        exact Kd.R_mono (Kd.R_types h.r hc (by decide)) (fun k hk => by simpa using hk.2)
    exact Kd.R_mono (Kd.R_grown h2 hg (fun k hk => hk)) (fun _ _ => trivial), hb⟩
theorem Sw.free {w W : World} {g : Nat} {v nx sq : Value} {l : List Rn} (h : Sw w W g v nx sq l) (j : Nat) : W.frozen? ⟨g, j, none⟩ = false := free_top h.z j
end Go.Proofs.Ytgfkpddmjcgceaa.Kx
