import Derived.Test.YtgfkpddmjcgceaaApF
import Derived.Test.YtgfkpddmjcgceaaApA
import Derived.Test.YtgfkpddmjcgceaaLwB
import Derived.Test.YtgfkpddmjcgceaaRoA
set_option linter.unusedVariables false
set_option linter.unusedSimpArgs false
namespace Go.Proofs.Ytgfkpddmjcgceaa.Kx
open Go.RowKit Go.Maps Go.Proofs.YtgfkpddmjcgceaaW.PrintWords

theorem at_ex (rs : List Rn) (drop : List Int) : ∃ a, IsAt rs drop a := by
  obtain ⟨r, hr⟩ := firstI_ex (fun a : Rn => a.file ∈ drop) rs zRn
  obtain ⟨a, _, h, _⟩ := at_of hr
  exact ⟨a, h⟩
theorem apply_none {rs : List Rn} {nx lg sq : Int} {add : List Rn} {drop : List Int} {enx elg esq x : Int} {l : List Rn} {a b c : Int} (h : ApplyR rs nx lg sq add drop enx elg esq x l a b c) (hx : x ≠ 0) : l = [] ∧ a = 0 ∧ b = 0 ∧ c = 0 := by
  rcases h with ⟨_, _, h⟩ | ⟨_, ⟨_, _, h⟩ | ⟨_, ⟨_, _, h⟩ | ⟨_, ⟨_, _, h⟩ | ⟨_, at', hat, ⟨_, _, h⟩ | ⟨_, ⟨_, _, h⟩ | ⟨h0, _⟩⟩⟩⟩⟩⟩
  · exact h
  · exact h
  · exact h
  · exact h
  · exact h
  · exact h
  · exact absurd h0 hx
theorem apply_ok {rs : List Rn} {nx lg sq : Int} {add : List Rn} {drop : List Int} {enx elg esq : Int} {l : List Rn} {a b c : Int} (h : ApplyR rs nx lg sq add drop enx elg esq 0 l a b c) : VOk l a b c := by
  rcases h with ⟨h, _⟩ | ⟨_, ⟨h, _⟩ | ⟨_, ⟨h, _⟩ | ⟨_, ⟨h, _⟩ | ⟨_, at', hat, ⟨h, _⟩ | ⟨_, ⟨h, _⟩ | ⟨_, hg, h1, h2, h3, h4⟩⟩⟩⟩⟩⟩
  · omega
  · omega
  · omega
  · omega
  · omega
  · omega
  · rw [h1, h2, h3, h4]; exact hg.2.2.2
theorem apply_one {rs : List Rn} {nx lg sq : Int} {add : List Rn} {drop : List Int} {enx elg esq x x' : Int} {l l' : List Rn} {a b c a' b' c' : Int} (h : ApplyR rs nx lg sq add drop enx elg esq x l a b c) (h' : ApplyR rs nx lg sq add drop enx elg esq x' l' a' b' c') : x' = x ∧ l' = l ∧ a' = a ∧ b' = b ∧ c' = c := by
  obtain ⟨a0, h0⟩ := at_ex rs drop
  have e1 := apply_x h h0
  have e2 := apply_x h' h0
  have e : x' = x := e2.trans e1.symm
  subst e
  by_cases hx : x' = 0
  · subst hx
    obtain ⟨p1, p2, p3, p4⟩ := apply_out h h0
    obtain ⟨q1, q2, q3, q4⟩ := apply_out h' h0
    exact ⟨rfl, q1.trans p1.symm, q2.trans p2.symm, q3.trans p3.symm, q4.trans p4.symm⟩
  · obtain ⟨p1, p2, p3, p4⟩ := apply_none h hx
    obtain ⟨q1, q2, q3, q4⟩ := apply_none h' hx
    exact ⟨rfl, q1.trans p1.symm, q2.trans p2.symm, q3.trans p3.symm, q4.trans p4.symm⟩
theorem apply_sq {rs : List Rn} {nx lg sq : Int} {add : List Rn} {drop : List Int} {enx elg esq x : Int} {l : List Rn} {a b c : Int} (h : ApplyR rs nx lg sq add drop enx elg esq x l a b c) (hsq : 0 ≤ sq) : 0 ≤ c := by
  by_cases hx : x = 0
  · subst hx
    obtain ⟨a0, h0⟩ := at_ex rs drop
    obtain ⟨_, _, _, h4⟩ := apply_out h h0
    rw [h4]; unfold outS; split <;> omega
  · rw [(apply_none h hx).2.2.2]; exact Int.le_refl _
/-- What VersionApplies has in memory. -/
structure Va (w W : World) (V E X Y : Array Value) (p7 p9 : Nat) (A A1 A2 A5 A6 : Option Addr) (rs add l : List Rn) (drop : List Int) : Prop where
  z2 : W.heap[w.heap.size]? = some (.cells V 27 (0, 0))
  z7 : W.heap[p7]? = some (.cells X 27 (0, 0))
  z9 : W.heap[p9]? = some (.cells Y 27 (0, 0))
  r : kRn.C W A rs.length rs
  x : kRn.C W A5 l.length l
  y : kRn.C W A6 l.length l
  b : Below w.heap.size w W
theorem Va.below {w W W1 : World} {V E X Y : Array Value} {p7 p9 : Nat} {A A1 A2 A5 A6 : Option Addr} {rs add l : List Rn} {drop : List Int} (h : Va w W V E X Y p7 p9 A A1 A2 A5 A6 rs add l drop) (hb : Below W.heap.size W W1) : Va w W1 V E X Y p7 p9 A A1 A2 A5 A6 rs add l drop :=
  ⟨(hb.block _ (lt_of_block h.z2)).trans h.z2, (hb.block _ (lt_of_block h.z7)).trans h.z7, (hb.block _ (lt_of_block h.z9)).trans h.z9, Kd.C_below h.r hb, Kd.C_below h.x hb, Kd.C_below h.y hb, h.b.trans (hb.mono h.b.size)⟩
theorem byt_of_in {rs : List Rn} (h : ∀ r, r ∈ rs → RnIn r) : BytRs rs := fun i hi => ⟨(h _ (getD_mem hi)).1, (h _ (getD_mem hi)).2.1⟩
set_option maxHeartbeats 16000000 in
set_option maxRecDepth 100000 in
theorem version_applies {w : World} {A A1 A2 : Option Addr} {c c1 c2 : Nat} {rs add : List Rn} {drop : List Int} (nx lg sq enx elg esq : Int) (h : kRn.C w A rs.length rs) (hc : rs.length ≤ c) (h1 : kRn.C w A1 add.length add) (h2 : (Kd.int .i64).C w A2 drop.length drop) (hc2 : drop.length ≤ c2) (hsq : 0 ≤ sq) (hesq : 0 ≤ esq) (hb : BytRs rs) (hb1 : BytRs add) :
    Calls Try.prog 5 #[.agg #[.slice A rs.length c, .int .i64 nx, .int .i64 lg, .int .u64 sq], .agg #[.slice A1 add.length c1, .slice A2 drop.length c2, .int .i64 enx, .int .i64 elg, .int .u64 esq]] w fun e w' => e = .returned (.bool true) ∧ Below w.heap.size w w' := by
  obtain ⟨n, hn⟩ : ∃ n, n = rs.length := ⟨_, rfl⟩
  obtain ⟨n1, hn1⟩ : ∃ n1, n1 = add.length := ⟨_, rfl⟩
  obtain ⟨n2, hn2⟩ : ∃ n2, n2 = drop.length := ⟨_, rfl⟩
  have H := Kp.mk h
  have H1 := Kp.mk h1
  have H2 := Kp.mk h2
  have HBy := Kp.mk hb
  have HBy1 := Kp.mk hb1
  have hm2 := h2.2.1
  rw [← hn] at hc
  rw [← hn2] at hc2 hm2
  rw [← hn, ← hn1, ← hn2]
  have Hn := Kp.mk hn
  have Hn1 := Kp.mk hn1
  have Hn2 := Kp.mk hn2
  clear h h1 h2 hb hb1 hn hn1 hn2
  go_enter Try.func5, Try.ntmps5
  go_wp2_with fail
  refine (alive_any _).mono ?_
  rintro e w1 ⟨rfl, hb1⟩
  obtain ⟨hw, g2, g3⟩ := nest2 hb1
  have HB := Kp.mk hw
  have HG2 := Kp.mk g2
  have HG3 := Kp.mk g3
  clear hb1 hw g2 g3
  have v0 := cells_top HG2.out 0 (.slice A n c) rfl
  have v1 := cells_top HG2.out 1 (.int .i64 nx) rfl
  have v2 := cells_top HG2.out 2 (.int .i64 lg) rfl
  have v3 := cells_top HG2.out 3 (.int .u64 sq) rfl
  have e0 := cells_top HG3.out 0 (.slice A1 n1 c1) rfl
  have e1 := cells_top HG3.out 1 (.slice A2 n2 c2) rfl
  have e2 := cells_top HG3.out 2 (.int .i64 enx) rfl
  have e3 := cells_top HG3.out 3 (.int .i64 elg) rfl
  have e4 := cells_top HG3.out 4 (.int .u64 esq) rfl
  have hcc := big_version (c := c) nx lg sq (show kRn.C w1 A n rs by rw [Hn.out]; exact Kd.C_below H.out HB.out)
  have Hcc := Kp.mk hcc
  clear hcc
  go_wp2_with fail
  refine Hcc.out.mono ?_
  clear Hcc v0 v1 v2 v3 e0 e1 e2 e3 e4
  rintro e w2 ⟨b1, rfl, hs, hb2⟩
  have HS1 := Kp.mk hs
  have HG2' := Kp.mk ((hb2.block _ (lt_of_block HG2.out)).trans HG2.out)
  have HG3' := Kp.mk ((hb2.block _ (lt_of_block HG3.out)).trans HG3.out)
  have HB' := Kp.mk (HB.out.trans (hb2.mono HB.out.size))
  clear hs hb2 HG2 HG3 HB
  have v0 := cells_top HG2'.out 0 (.slice A n c) rfl
  have v1 := cells_top HG2'.out 1 (.int .i64 nx) rfl
  have v2 := cells_top HG2'.out 2 (.int .i64 lg) rfl
  have v3 := cells_top HG2'.out 3 (.int .u64 sq) rfl
  have e0 := cells_top HG3'.out 0 (.slice A1 n1 c1) rfl
  have e1 := cells_top HG3'.out 1 (.slice A2 n2 c2) rfl
  have e2 := cells_top HG3'.out 2 (.int .i64 enx) rfl
  have e3 := cells_top HG3'.out 3 (.int .i64 elg) rfl
  have e4 := cells_top HG3'.out 4 (.int .u64 esq) rfl
  cases b1 with
  | true =>
    go_wp2_with fail
    go_ret
    exact ⟨rfl, HB'.out⟩
  | false =>
    have HSm : Kp (rs.length ≤ 900000) := ⟨Nat.le_trans (HS1.out (by trivial)).2.1 (by omega)⟩
    clear HS1
    have hcc := big_edit (c := c1) (A' := A2) (m := n2) (c' := c2) enx elg esq (show kRn.C w2 A1 n1 add by rw [Hn1.out]; exact Kd.C_below H1.out HB'.out) hm2
    have Hcc := Kp.mk hcc
    clear hcc
    go_wp2_with fail
    refine Hcc.out.mono ?_
    clear Hcc v0 v1 v2 v3 e0 e1 e2 e3 e4
    rintro e w3 ⟨b1, rfl, hs, hb2⟩
    have HG2 := Kp.mk ((hb2.block _ (lt_of_block HG2'.out)).trans HG2'.out)
    have HG3 := Kp.mk ((hb2.block _ (lt_of_block HG3'.out)).trans HG3'.out)
    have HB := Kp.mk (HB'.out.trans (hb2.mono HB'.out.size))
    clear hs hb2 HG2' HG3' HB'
    have v0 := cells_top HG2.out 0 (.slice A n c) rfl
    have v1 := cells_top HG2.out 1 (.int .i64 nx) rfl
    have v2 := cells_top HG2.out 2 (.int .i64 lg) rfl
    have v3 := cells_top HG2.out 3 (.int .u64 sq) rfl
    have e0 := cells_top HG3.out 0 (.slice A1 n1 c1) rfl
    have e1 := cells_top HG3.out 1 (.slice A2 n2 c2) rfl
    have e2 := cells_top HG3.out 2 (.int .i64 enx) rfl
    have e3 := cells_top HG3.out 3 (.int .i64 elg) rfl
    have e4 := cells_top HG3.out 4 (.int .u64 esq) rfl
    cases b1 with
    | true =>
      go_wp2_with fail
      go_ret
      exact ⟨rfl, HB.out⟩
    | false =>
      have hcc := version_apply (w := w3) (c := c) (c1 := c1) (c2 := c2) nx lg sq enx elg esq (Kd.C_below H.out HB.out) (by rw [← Hn.out]; exact hc) (Kd.C_below H1.out HB.out) (Kd.C_below H2.out HB.out) hsq hesq
      rw [← Hn.out, ← Hn1.out, ← Hn2.out] at hcc
      have Hcc := Kp.mk hcc
      clear hcc
      go_wp2_with fail
      refine Hcc.out.mono ?_
      clear Hcc v0 v1 v2 v3 e0 e1 e2 e3 e4
      rintro e w4 ⟨x, l, a, b, d, v, rfl, hR, hv, hb2⟩
      obtain ⟨A5, c5, rfl⟩ := Kd.R_slice hv
      have HC5 := Kp.mk (Kd.R_reads' hv).2.2
      obtain ⟨m, hm⟩ : ∃ m, m = l.length := ⟨_, rfl⟩
      rw [← hm]
      have Hm := Kp.mk hm
      clear hm
      have HRx := Kp.mk hR
      have HX : Kp ((w4.alloc (.cells #[.slice A5 m c5, .int .i64 a, .int .i64 b, .int .u64 d] 27)).heap[w4.heap.size]? = some (.cells #[.slice A5 m c5, .int .i64 a, .int .i64 b, .int .u64 d] 27 (0, 0))) := ⟨heap_alloc_new w4 _⟩
      have HG2' := Kp.mk (blk_alloc ((hb2.block _ (lt_of_block HG2.out)).trans HG2.out) (.cells #[.slice A5 m c5, .int .i64 a, .int .i64 b, .int .u64 d] 27))
      have HG3' := Kp.mk (blk_alloc ((hb2.block _ (lt_of_block HG3.out)).trans HG3.out) (.cells #[.slice A5 m c5, .int .i64 a, .int .i64 b, .int .u64 d] 27))
      have HB' := Kp.mk ((HB.out.trans (hb2.mono HB.out.size)).alloc (Nat.le_trans HB.out.size hb2.size) (.cells #[.slice A5 m c5, .int .i64 a, .int .i64 b, .int .u64 d] 27))
      have HC5' := Kp.mk (Kd.C_alloc HC5.out (.cells #[.slice A5 m c5, .int .i64 a, .int .i64 b, .int .u64 d] 27))
      clear hR hv hb2 HG2 HG3 HB HC5
      have v0 := cells_top HG2'.out 0 (.slice A n c) rfl
      have v1 := cells_top HG2'.out 1 (.int .i64 nx) rfl
      have v2 := cells_top HG2'.out 2 (.int .i64 lg) rfl
      have v3 := cells_top HG2'.out 3 (.int .u64 sq) rfl
      have e0 := cells_top HG3'.out 0 (.slice A1 n1 c1) rfl
      have e1 := cells_top HG3'.out 1 (.slice A2 n2 c2) rfl
      have e2 := cells_top HG3'.out 2 (.int .i64 enx) rfl
      have e3 := cells_top HG3'.out 3 (.int .i64 elg) rfl
      have e4 := cells_top HG3'.out 4 (.int .u64 esq) rfl
      have hcc := ref_apply (w := w4.alloc (.cells #[.slice A5 m c5, .int .i64 a, .int .i64 b, .int .u64 d] 27)) (n := n) (n1 := n1) (n2 := n2) (c := c) (c1 := c1) (c2 := c2) nx lg sq enx elg esq (by rw [Hn.out]; exact Kd.C_below H.out HB'.out) (by rw [Hn1.out]; exact Kd.C_below H1.out HB'.out) (by rw [Hn2.out]; exact Kd.C_below H2.out HB'.out) hc2 hsq hesq HBy.out HBy1.out
      have Hcc := Kp.mk hcc
      clear hcc
      go_wp2_with fail
      refine Hcc.out.mono ?_
      clear Hcc v0 v1 v2 v3 e0 e1 e2 e3 e4
      rintro e w5 ⟨x', l', a', b', d', v, rfl, hR, hv, hb2⟩
      obtain ⟨rfl, rfl, rfl, rfl, rfl⟩ := apply_one HRx.out hR
      obtain ⟨A6, c6, rfl⟩ := Kd.R_slice hv
      rw [← Hm.out]
      have HC6 := Kp.mk (Kd.R_reads' hv).2.2
      have HW0 : Kp (Va w (w5.alloc (.cells #[.slice A6 m c6, .int .i64 a', .int .i64 b', .int .u64 d'] 27)) #[.slice A n c, .int .i64 nx, .int .i64 lg, .int .u64 sq] #[.slice A1 n1 c1, .slice A2 n2 c2, .int .i64 enx, .int .i64 elg, .int .u64 esq] #[.slice A5 m c5, .int .i64 a', .int .i64 b', .int .u64 d'] #[.slice A6 m c6, .int .i64 a', .int .i64 b', .int .u64 d'] w4.heap.size w5.heap.size A A1 A2 A5 A6 rs add l' drop) := ⟨⟨blk_alloc ((hb2.block _ (lt_of_block HG2'.out)).trans HG2'.out) _, blk_alloc ((hb2.block _ (lt_of_block HX.out)).trans HX.out) _, heap_alloc_new w5 _, Kd.C_alloc (Kd.C_below H.out (HB'.out.trans (hb2.mono HB'.out.size))) _, Kd.C_alloc (Kd.C_below HC5'.out hb2) _, Kd.C_alloc HC6.out _, (HB'.out.trans (hb2.mono HB'.out.size)).alloc (Nat.le_trans HB'.out.size hb2.size) _⟩⟩
      have hd0 := apply_sq HRx.out hsq
      clear hR hv hb2 HG2' HG3' HB' HX HC5' HC6
      go_wp2_with fail
      have HS : Kp (∀ W, Va w W #[.slice A n c, .int .i64 nx, .int .i64 lg, .int .u64 sq] #[.slice A1 n1 c1, .slice A2 n2 c2, .int .i64 enx, .int .i64 elg, .int .u64 esq] #[.slice A5 m c5, .int .i64 a', .int .i64 b', .int .u64 d'] #[.slice A6 m c6, .int .i64 a', .int .i64 b', .int .u64 d'] w4.heap.size w5.heap.size A A1 A2 A5 A6 rs add l' drop → (fun W => W.cell? ⟨w.heap.size, 0, none⟩ = some (.slice A n c) ∧ W.cell? ⟨w.heap.size, 1, none⟩ = some (.int .i64 nx) ∧ W.cell? ⟨w.heap.size, 2, none⟩ = some (.int .i64 lg) ∧ W.cell? ⟨w.heap.size, 3, none⟩ = some (.int .u64 sq) ∧ W.cell? ⟨w4.heap.size, 0, none⟩ = some (.slice A5 m c5) ∧ W.cell? ⟨w4.heap.size, 1, none⟩ = some (.int .i64 a') ∧ W.cell? ⟨w4.heap.size, 2, none⟩ = some (.int .i64 b') ∧ W.cell? ⟨w4.heap.size, 3, none⟩ = some (.int .u64 d') ∧ W.cell? ⟨w5.heap.size, 0, none⟩ = some (.slice A6 m c6) ∧ W.cell? ⟨w5.heap.size, 1, none⟩ = some (.int .i64 a') ∧ W.cell? ⟨w5.heap.size, 2, none⟩ = some (.int .i64 b') ∧ W.cell? ⟨w5.heap.size, 3, none⟩ = some (.int .u64 d')) W) := ⟨fun W h => ⟨cells_top h.z2 0 _ rfl, cells_top h.z2 1 _ rfl, cells_top h.z2 2 _ rfl, cells_top h.z2 3 _ rfl, cells_top h.z7 0 _ rfl, cells_top h.z7 1 _ rfl, cells_top h.z7 2 _ rfl, cells_top h.z7 3 _ rfl, cells_top h.z9 0 _ rfl, cells_top h.z9 1 _ rfl, cells_top h.z9 2 _ rfl, cells_top h.z9 3 _ rfl⟩⟩
      refine wp_region_held_drew (S := fun W => W.cell? ⟨w.heap.size, 0, none⟩ = some (.slice A n c) ∧ W.cell? ⟨w.heap.size, 1, none⟩ = some (.int .i64 nx) ∧ W.cell? ⟨w.heap.size, 2, none⟩ = some (.int .i64 lg) ∧ W.cell? ⟨w.heap.size, 3, none⟩ = some (.int .u64 sq) ∧ W.cell? ⟨w4.heap.size, 0, none⟩ = some (.slice A5 m c5) ∧ W.cell? ⟨w4.heap.size, 1, none⟩ = some (.int .i64 a') ∧ W.cell? ⟨w4.heap.size, 2, none⟩ = some (.int .i64 b') ∧ W.cell? ⟨w4.heap.size, 3, none⟩ = some (.int .u64 d') ∧ W.cell? ⟨w5.heap.size, 0, none⟩ = some (.slice A6 m c6) ∧ W.cell? ⟨w5.heap.size, 1, none⟩ = some (.int .i64 a') ∧ W.cell? ⟨w5.heap.size, 2, none⟩ = some (.int .i64 b') ∧ W.cell? ⟨w5.heap.size, 3, none⟩ = some (.int .u64 d')) (by kernel_rfl) (HS.out _ (HW0.out.below (drew_below' _))) (fun hHeld0 => ?_)
      have HW1 := Kp.mk (HW0.out.below (drew_below' (w5.alloc (.cells #[.slice A6 m c6, .int .i64 a', .int .i64 b', .int .u64 d'] 27))))
      clear HW0
      refine wpAnyH_take (i := 0) (oi := _) (v := ?_) rfl (by kernel_rfl) (by kernel_rfl) (by kernel_rfl) (fun _ _ _ h => h) (Or.inl ⟨by rfl, ?_⟩) (by assumption) ?_
      rotate_left
      · intro w5 hSw; (try dsimp only at hSw); go_simp; all_goals (with_reducible rfl)
      try simp only [List.getElem_toArray, List.getElem_cons_succ, List.getElem_cons_zero, Act.put, List.setIfInBounds_toArray, List.set_cons_zero, List.set_cons_succ]
      refine wpAnyH_take (i := 1) (oi := _) (v := ?_) rfl (by kernel_rfl) (by kernel_rfl) (by kernel_rfl) (fun _ _ _ h => h) (Or.inl ⟨by rfl, ?_⟩) (by assumption) ?_
      rotate_left
      · intro w5 hSw; (try dsimp only at hSw); go_simp; all_goals (with_reducible rfl)
      try simp only [List.getElem_toArray, List.getElem_cons_succ, List.getElem_cons_zero, Act.put, List.setIfInBounds_toArray, List.set_cons_zero, List.set_cons_succ]
      refine wpAnyH_ready (rs := [2]) (by kernel_rfl) (by simp) ?_
      refine AllReadyH.cons (o := _) rfl (fun K hK => ?_) AllReadyH.nil
      go_simp
      refine (same_version a' b' d' (by have := HW1.out.x; rwa [← Hm.out] at this) (by have := HW1.out.y; rwa [← Hm.out] at this)).mono ?_
      rintro e w12 ⟨rfl, hbq⟩
      have HW2 := Kp.mk (HW1.out.below hbq)
      clear hbq
      refine hK.out _ _ (HS.out _ HW2.out) (fun hHeld102 => ?_)
      clear hK K hHeld0 HW1
      try simp only [List.getElem_toArray, List.getElem_cons_succ, List.getElem_cons_zero, Act.put, List.setIfInBounds_toArray, List.set_cons_zero, List.set_cons_succ]
      refine wpAnyH_take (i := 3) (oi := _) (v := ?_) rfl (by kernel_rfl) (by kernel_rfl) (by kernel_rfl) (fun _ _ _ h => h) (Or.inl ⟨by rfl, ?_⟩) (by assumption) ?_
      rotate_left
      · intro w5 hSw; (try dsimp only at hSw); go_simp; all_goals (with_reducible rfl)
      try simp only [List.getElem_toArray, List.getElem_cons_succ, List.getElem_cons_zero, Act.put, List.setIfInBounds_toArray, List.set_cons_zero, List.set_cons_succ]
      refine wpAnyH_take (i := 4) (oi := _) (v := ?_) rfl (by kernel_rfl) (by kernel_rfl) (by kernel_rfl) (fun _ _ _ h => h) (Or.inl ⟨by rfl, ?_⟩) (by assumption) ?_
      rotate_left
      · intro w5 hSw; (try dsimp only at hSw); go_simp; all_goals (with_reducible rfl)
      try simp only [List.getElem_toArray, List.getElem_cons_succ, List.getElem_cons_zero, Act.put, List.setIfInBounds_toArray, List.set_cons_zero, List.set_cons_succ]
      refine wpAnyH_take (i := 6) (oi := _) (v := ?_) rfl (by kernel_rfl) (by kernel_rfl) (by kernel_rfl) (fun _ _ _ h => h) (Or.inl ⟨by rfl, ?_⟩) (by assumption) ?_
      rotate_left
      · intro w5 hSw; (try dsimp only at hSw); go_simp; all_goals (with_reducible rfl)
      try simp only [List.getElem_toArray, List.getElem_cons_succ, List.getElem_cons_zero, Act.put, List.setIfInBounds_toArray, List.set_cons_zero, List.set_cons_succ]
      refine wpAnyH_ready (rs := [5]) (by kernel_rfl) (by simp) ?_
      refine AllReadyH.cons (o := _) rfl (fun K hK => ?_) AllReadyH.nil
      go_simp
      refine (num_any _ _).mono ?_
      rintro e w15 ⟨rfl, rfl⟩
      refine hK.out _ _ (HS.out _ HW2.out) (fun hHeld105 => ?_)
      clear hK K hHeld102
      try simp only [List.getElem_toArray, List.getElem_cons_succ, List.getElem_cons_zero, Act.put, List.setIfInBounds_toArray, List.set_cons_zero, List.set_cons_succ]
      refine wpAnyH_take (i := 7) (oi := _) (v := ?_) rfl (by kernel_rfl) (by kernel_rfl) (by kernel_rfl) (fun _ _ _ h => h) (Or.inl ⟨by rfl, ?_⟩) (by assumption) ?_
      rotate_left
      · intro w5 hSw; (try dsimp only at hSw); go_simp; all_goals (with_reducible rfl)
      try simp only [List.getElem_toArray, List.getElem_cons_succ, List.getElem_cons_zero, Act.put, List.setIfInBounds_toArray, List.set_cons_zero, List.set_cons_succ]
      refine wpAnyH_take (i := 8) (oi := _) (v := ?_) rfl (by kernel_rfl) (by kernel_rfl) (by kernel_rfl) (fun _ _ _ h => h) (Or.inl ⟨by rfl, ?_⟩) (by assumption) ?_
      rotate_left
      · intro w5 hSw; (try dsimp only at hSw); go_simp; all_goals (with_reducible rfl)
      try simp only [List.getElem_toArray, List.getElem_cons_succ, List.getElem_cons_zero, Act.put, List.setIfInBounds_toArray, List.set_cons_zero, List.set_cons_succ]
      refine wpAnyH_take (i := 9) (oi := _) (v := ?_) rfl (by kernel_rfl) (by kernel_rfl) (by kernel_rfl) (fun _ _ _ h => h) (Or.inl ⟨by rfl, ?_⟩) (by assumption) ?_
      rotate_left
      · intro w5 hSw; (try dsimp only at hSw); go_simp; all_goals (with_reducible rfl)
      try simp only [List.getElem_toArray, List.getElem_cons_succ, List.getElem_cons_zero, Act.put, List.setIfInBounds_toArray, List.set_cons_zero, List.set_cons_succ]
      refine wpAnyH_take (i := 10) (oi := _) (v := ?_) rfl (by kernel_rfl) (by kernel_rfl) (by kernel_rfl) (fun _ _ _ h => h) (Or.inl ⟨by rfl, ?_⟩) (by assumption) ?_
      rotate_left
      · intro w5 hSw; (try dsimp only at hSw); go_simp; all_goals (with_reducible rfl)
      try simp only [List.getElem_toArray, List.getElem_cons_succ, List.getElem_cons_zero, Act.put, List.setIfInBounds_toArray, List.set_cons_zero, List.set_cons_succ]
      refine wpAnyH_take (i := 12) (oi := _) (v := ?_) rfl (by kernel_rfl) (by kernel_rfl) (by kernel_rfl) (fun _ _ _ h => h) (Or.inl ⟨by rfl, ?_⟩) (by assumption) ?_
      rotate_left
      · intro w5 hSw; (try dsimp only at hSw); go_simp; all_goals (with_reducible rfl)
      try simp only [List.getElem_toArray, List.getElem_cons_succ, List.getElem_cons_zero, Act.put, List.setIfInBounds_toArray, List.set_cons_zero, List.set_cons_succ]
      refine wpAnyH_ready (rs := [11]) (by kernel_rfl) (by simp) ?_
      refine AllReadyH.cons (o := _) rfl (fun K hK => ?_) AllReadyH.nil
      go_simp
      refine ((by have := version_right (c := c) nx lg sq HW2.out.r hsq; rwa [← Hn.out] at this : Calls _ _ _ _ _)).mono ?_
      rintro e w21 ⟨b1, rfl, hv1, hbq⟩
      have HW3 := Kp.mk (HW2.out.below hbq)
      have HV1 := Kp.mk hv1
      clear hv1
      clear hbq
      refine hK.out _ _ (HS.out _ HW3.out) (fun hHeld111 => ?_)
      clear hK K hHeld105 HW2
      try simp only [List.getElem_toArray, List.getElem_cons_succ, List.getElem_cons_zero, Act.put, List.setIfInBounds_toArray, List.set_cons_zero, List.set_cons_succ]
      refine wpAnyH_ready (rs := [13]) (by kernel_rfl) (by simp) ?_
      refine AllReadyH.cons (o := _) rfl (fun K hK => ?_) AllReadyH.nil
      go_simp
      refine ((by have := ref_version (c := c) nx lg sq HW3.out.r HBy.out; rwa [← Hn.out] at this : Calls _ _ _ _ _)).mono ?_
      rintro e w23 ⟨b2, rfl, hv2, hbq⟩
      have HW4 := Kp.mk (HW3.out.below hbq)
      have hbb : b2 = b1 := Bool.eq_iff_iff.2 (hv2.trans HV1.out.symm)
      subst hbb
      clear hv2 HV1
      clear hbq
      refine hK.out _ _ (HS.out _ HW4.out) (fun hHeld113 => ?_)
      clear hK K hHeld111 HW3
      try simp only [List.getElem_toArray, List.getElem_cons_succ, List.getElem_cons_zero, Act.put, List.setIfInBounds_toArray, List.set_cons_zero, List.set_cons_succ]
      refine wpAnyH_take (i := 14) (oi := _) (v := ?_) rfl (by kernel_rfl) (by kernel_rfl) (by kernel_rfl) (fun _ _ _ h => h) (Or.inl ⟨by rfl, ?_⟩) (by assumption) ?_
      rotate_left
      · intro w5 hSw; (try dsimp only at hSw); go_simp; all_goals (with_reducible rfl)
      try simp only [List.getElem_toArray, List.getElem_cons_succ, List.getElem_cons_zero, Act.put, List.setIfInBounds_toArray, List.set_cons_zero, List.set_cons_succ]
      refine wpAnyH_take (i := 15) (oi := _) (v := ?_) rfl (by kernel_rfl) (by kernel_rfl) (by kernel_rfl) (fun _ _ _ h => h) (Or.inl ⟨by rfl, ?_⟩) (by assumption) ?_
      rotate_left
      · intro w5 hSw; (try dsimp only at hSw); go_simp; all_goals (with_reducible rfl)
      try simp only [List.getElem_toArray, List.getElem_cons_succ, List.getElem_cons_zero, Act.put, List.setIfInBounds_toArray, List.set_cons_zero, List.set_cons_succ]
      refine wpAnyH_take (i := 16) (oi := _) (v := ?_) rfl (by kernel_rfl) (by kernel_rfl) (by kernel_rfl) (fun _ _ _ h => h) (Or.inl ⟨by rfl, ?_⟩) (by assumption) ?_
      rotate_left
      · intro w5 hSw; (try dsimp only at hSw); go_simp; all_goals (with_reducible rfl)
      try simp only [List.getElem_toArray, List.getElem_cons_succ, List.getElem_cons_zero, Act.put, List.setIfInBounds_toArray, List.set_cons_zero, List.set_cons_succ]
      refine wpAnyH_take (i := 17) (oi := _) (v := ?_) rfl (by kernel_rfl) (by kernel_rfl) (by kernel_rfl) (fun _ _ _ h => h) (Or.inl ⟨by rfl, ?_⟩) (by assumption) ?_
      rotate_left
      · intro w5 hSw; (try dsimp only at hSw); go_simp; all_goals (with_reducible rfl)
      try simp only [List.getElem_toArray, List.getElem_cons_succ, List.getElem_cons_zero, Act.put, List.setIfInBounds_toArray, List.set_cons_zero, List.set_cons_succ]
      by_cases hx0 : x' = 0
      · subst hx0
        have HOk := Kp.mk (apply_ok HRx.out)
        refine wpAnyH_take (i := 18) (oi := _) (v := ?_) rfl (by kernel_rfl) (by kernel_rfl) (by kernel_rfl) (fun _ _ _ h => h) (Or.inl ⟨by rfl, ?_⟩) (by assumption) ?_
        rotate_left
        · intro w5 hSw; (try dsimp only at hSw); go_simp; all_goals (with_reducible rfl)
        try simp only [List.getElem_toArray, List.getElem_cons_succ, List.getElem_cons_zero, Act.put, List.setIfInBounds_toArray, List.set_cons_zero, List.set_cons_succ]
        refine wpAnyH_take (i := 19) (oi := _) (v := ?_) rfl (by kernel_rfl) (by kernel_rfl) (by kernel_rfl) (fun _ _ _ h => h) (Or.inl ⟨by rfl, ?_⟩) (by assumption) ?_
        rotate_left
        · intro w5 hSw; (try dsimp only at hSw); go_simp; all_goals (with_reducible rfl)
        try simp only [List.getElem_toArray, List.getElem_cons_succ, List.getElem_cons_zero, Act.put, List.setIfInBounds_toArray, List.set_cons_zero, List.set_cons_succ]
        refine wpAnyH_take (i := 20) (oi := _) (v := ?_) rfl (by kernel_rfl) (by kernel_rfl) (by kernel_rfl) (fun _ _ _ h => h) (Or.inl ⟨by rfl, ?_⟩) (by assumption) ?_
        rotate_left
        · intro w5 hSw; (try dsimp only at hSw); go_simp; all_goals (with_reducible rfl)
        try simp only [List.getElem_toArray, List.getElem_cons_succ, List.getElem_cons_zero, Act.put, List.setIfInBounds_toArray, List.set_cons_zero, List.set_cons_succ]
        refine wpAnyH_ready (rs := [21]) (by kernel_rfl) (by simp) ?_
        refine AllReadyH.cons (o := _) rfl (fun K hK => ?_) AllReadyH.nil
        go_simp
        refine ((by have := version_right (c := c5) a' b' d' HW4.out.x hd0; rwa [← Hm.out] at this : Calls _ _ _ _ _)).mono ?_
        rintro e w31 ⟨b3, rfl, hv3, hbq⟩
        have HW5 := Kp.mk (HW4.out.below hbq)
        have hbt : b3 = true := hv3.2 HOk.out
        subst hbt
        clear hv3
        clear hbq
        refine hK.out _ _ (HS.out _ HW5.out) (fun hHeld121 => ?_)
        clear hK K hHeld113 HW4
        try simp only [List.getElem_toArray, List.getElem_cons_succ, List.getElem_cons_zero, Act.put, List.setIfInBounds_toArray, List.set_cons_zero, List.set_cons_succ]
        refine wpAnyH_take (i := 22) (oi := _) (v := ?_) rfl (by kernel_rfl) (by kernel_rfl) (by kernel_rfl) (fun _ _ _ h => h) (Or.inl ⟨by rfl, ?_⟩) (by assumption) ?_
        rotate_left
        · intro w5 hSw; (try dsimp only at hSw); go_simp; all_goals (with_reducible rfl)
        try simp only [List.getElem_toArray, List.getElem_cons_succ, List.getElem_cons_zero, Act.put, List.setIfInBounds_toArray, List.set_cons_zero, List.set_cons_succ]
        refine wpAnyH_take (i := 23) (oi := _) (v := ?_) rfl (by kernel_rfl) (by kernel_rfl) (by kernel_rfl) (fun _ _ _ h => h) (Or.inl ⟨by rfl, ?_⟩) (by assumption) ?_
        rotate_left
        · intro w5 hSw; (try dsimp only at hSw); go_simp; all_goals (with_reducible rfl)
        try simp only [List.getElem_toArray, List.getElem_cons_succ, List.getElem_cons_zero, Act.put, List.setIfInBounds_toArray, List.set_cons_zero, List.set_cons_succ]
        refine wpAnyH_take (i := 24) (oi := _) (v := ?_) rfl (by kernel_rfl) (by kernel_rfl) (by kernel_rfl) (fun _ _ _ h => h) (Or.inl ⟨by rfl, ?_⟩) (by assumption) ?_
        rotate_left
        · intro w5 hSw; (try dsimp only at hSw); go_simp; all_goals (with_reducible rfl)
        try simp only [List.getElem_toArray, List.getElem_cons_succ, List.getElem_cons_zero, Act.put, List.setIfInBounds_toArray, List.set_cons_zero, List.set_cons_succ]
        refine wpAnyH_take (i := 25) (oi := _) (v := ?_) rfl (by kernel_rfl) (by kernel_rfl) (by kernel_rfl) (fun _ _ _ h => h) (Or.inl ⟨by rfl, ?_⟩) (by assumption) ?_
        rotate_left
        · intro w5 hSw; (try dsimp only at hSw); go_simp; all_goals (with_reducible rfl)
        try simp only [List.getElem_toArray, List.getElem_cons_succ, List.getElem_cons_zero, Act.put, List.setIfInBounds_toArray, List.set_cons_zero, List.set_cons_succ]
        refine wpAnyH_take (i := 27) (oi := _) (v := ?_) rfl (by kernel_rfl) (by kernel_rfl) (by kernel_rfl) (fun _ _ _ h => h) (Or.inl ⟨by rfl, ?_⟩) (by assumption) ?_
        rotate_left
        · intro w5 hSw; (try dsimp only at hSw); go_simp; all_goals (with_reducible rfl)
        try simp only [List.getElem_toArray, List.getElem_cons_succ, List.getElem_cons_zero, Act.put, List.setIfInBounds_toArray, List.set_cons_zero, List.set_cons_succ]
        refine wpAnyH_ready (rs := [26]) (by kernel_rfl) (by simp) ?_
        refine AllReadyH.cons (o := _) rfl (fun K hK => ?_) AllReadyH.nil
        go_simp
        refine ((by have := version_live (c := c) nx lg sq HW5.out.r HSm.out; rwa [← Hn.out] at this : Calls _ _ _ _ _)).mono ?_
        rintro e w36 ⟨v7, l7, rfl, hr7, hp7, hbq⟩
        have HW6 := Kp.mk (HW5.out.below hbq)
        obtain ⟨A7, c7, e7⟩ := Kd.R_slice hr7
        subst e7
        have HP7 := Kp.mk hp7
        have HC7 := Kp.mk (Kd.R_reads' hr7).2.2
        obtain ⟨m7, hm7⟩ : ∃ m7, m7 = l7.length := ⟨_, rfl⟩
        rw [← hm7] at HC7 ⊢
        clear hm7 hr7 hp7
        clear hbq
        refine hK.out _ _ (HS.out _ HW6.out) (fun hHeld126 => ?_)
        clear hK K hHeld121 HW5
        try simp only [List.getElem_toArray, List.getElem_cons_succ, List.getElem_cons_zero, Act.put, List.setIfInBounds_toArray, List.set_cons_zero, List.set_cons_succ]
        refine wpAnyH_ready (rs := [28]) (by kernel_rfl) (by simp) ?_
        refine AllReadyH.cons (o := _) rfl (fun K hK => ?_) AllReadyH.nil
        go_simp
        refine ((by have := ref_live (c := c) nx lg sq HW6.out.r HSm.out; rwa [← Hn.out] at this : Calls _ _ _ _ _)).mono ?_
        rintro e w38 ⟨v8, l8, rfl, hr8, hp8, hbq⟩
        have HW7 := Kp.mk (HW6.out.below hbq)
        obtain ⟨A8, c8, e8⟩ := Kd.R_slice hr8
        subst e8
        have HEq : Kp (l7 = l8) := ⟨asc_ext HP7.out.1 hp8.1 (fun x => (HP7.out.2 x).trans (hp8.2 x).symm)⟩
        have HC8 := Kp.mk (Kd.R_reads' hr8).2.2
        have HC7b := Kp.mk (Kd.C_below HC7.out hbq)
        obtain ⟨m8, hm8⟩ : ∃ m8, m8 = l8.length := ⟨_, rfl⟩
        rw [← hm8] at HC8 ⊢
        clear hm8 hr8 hp8 HC7
        clear hbq
        refine hK.out _ _ (HS.out _ HW7.out) (fun hHeld128 => ?_)
        clear hK K hHeld126 HW6
        try simp only [List.getElem_toArray, List.getElem_cons_succ, List.getElem_cons_zero, Act.put, List.setIfInBounds_toArray, List.set_cons_zero, List.set_cons_succ]
        refine wpAnyH_ready (rs := [29]) (by kernel_rfl) (by simp) ?_
        refine AllReadyH.cons (o := _) rfl (fun K hK => ?_) AllReadyH.nil
        go_simp
        refine (same_ints HC7b.out HC8.out).mono ?_
        rintro e w39 ⟨b9, rfl, hv9, hbq⟩
        have HW8 := Kp.mk (HW7.out.below hbq)
        have hbt9 : b9 = true := hv9.2 HEq.out
        subst hbt9
        clear hv9
        clear hbq
        refine hK.out _ _ (HS.out _ HW8.out) (fun hHeld129 => ?_)
        clear hK K hHeld128 HW7
        try simp only [List.getElem_toArray, List.getElem_cons_succ, List.getElem_cons_zero, Act.put, List.setIfInBounds_toArray, List.set_cons_zero, List.set_cons_succ]
        refine wpAnyH_take (i := 30) (oi := _) (v := ?_) rfl (by kernel_rfl) (by kernel_rfl) (by kernel_rfl) (fun _ _ _ h => h) (Or.inl ⟨by rfl, ?_⟩) (by assumption) ?_
        rotate_left
        · intro w5 hSw; (try dsimp only at hSw); go_simp; all_goals (with_reducible rfl)
        try simp only [List.getElem_toArray, List.getElem_cons_succ, List.getElem_cons_zero, Act.put, List.setIfInBounds_toArray, List.set_cons_zero, List.set_cons_succ]
        refine wpAnyH_take (i := 31) (oi := _) (v := ?_) rfl (by kernel_rfl) (by kernel_rfl) (by kernel_rfl) (fun _ _ _ h => h) (Or.inl ⟨by rfl, ?_⟩) (by assumption) ?_
        rotate_left
        · intro w5 hSw; (try dsimp only at hSw); go_simp; all_goals (with_reducible rfl)
        try simp only [List.getElem_toArray, List.getElem_cons_succ, List.getElem_cons_zero, Act.put, List.setIfInBounds_toArray, List.set_cons_zero, List.set_cons_succ]
        refine wpAnyH_done (by kernel_rfl) ?_ _
        clear hHeld129
        go_wp2_with fail
        go_ret
        exact ⟨rfl, HW8.out.b⟩
      · have hxb : (x' != 0) = true := by simpa using hx0
        clear hx0
        refine wpAnyH_take (i := 18) (oi := _) (v := ?_) rfl (by kernel_rfl) (by kernel_rfl) (by kernel_rfl) (fun _ _ _ h => h) (Or.inl ⟨by rfl, ?_⟩) (by assumption) ?_
        rotate_left
        · intro w5 hSw; (try dsimp only at hSw); go_simp; all_goals (with_reducible rfl)
        try simp only [List.getElem_toArray, List.getElem_cons_succ, List.getElem_cons_zero, Act.put, List.setIfInBounds_toArray, List.set_cons_zero, List.set_cons_succ]
        refine wpAnyH_take (i := 19) (oi := _) (v := ?_) rfl (by kernel_rfl) (by kernel_rfl) (by kernel_rfl) (fun _ _ _ h => h) (Or.inl ⟨by rfl, ?_⟩) (by assumption) ?_
        rotate_left
        · intro w5 hSw; (try dsimp only at hSw); go_simp; all_goals (with_reducible rfl)
        try simp only [List.getElem_toArray, List.getElem_cons_succ, List.getElem_cons_zero, Act.put, List.setIfInBounds_toArray, List.set_cons_zero, List.set_cons_succ]
        refine wpAnyH_take (i := 20) (oi := _) (v := undef) rfl (by kernel_rfl) (by kernel_rfl) (by kernel_rfl) (fun _ _ _ h => h) (Or.inr ⟨by rfl, rfl⟩) (by assumption) ?_
        try simp only [List.getElem_toArray, List.getElem_cons_succ, List.getElem_cons_zero, Act.put, List.setIfInBounds_toArray, List.set_cons_zero, List.set_cons_succ]
        refine wpAnyH_take (i := 21) (oi := _) (v := undef) rfl (by kernel_rfl) (by kernel_rfl) (by kernel_rfl) (fun _ _ _ h => h) (Or.inr ⟨by rfl, rfl⟩) (by assumption) ?_
        try simp only [List.getElem_toArray, List.getElem_cons_succ, List.getElem_cons_zero, Act.put, List.setIfInBounds_toArray, List.set_cons_zero, List.set_cons_succ]
        refine wpAnyH_take (i := 22) (oi := _) (v := ?_) rfl (by kernel_rfl) (by kernel_rfl) (by kernel_rfl) (fun _ _ _ h => h) (Or.inl ⟨by rfl, ?_⟩) (by assumption) ?_
        rotate_left
        · intro w5 hSw; (try dsimp only at hSw); go_simp; all_goals (with_reducible rfl)
        try simp only [List.getElem_toArray, List.getElem_cons_succ, List.getElem_cons_zero, Act.put, List.setIfInBounds_toArray, List.set_cons_zero, List.set_cons_succ]
        refine wpAnyH_take (i := 23) (oi := _) (v := ?_) rfl (by kernel_rfl) (by kernel_rfl) (by kernel_rfl) (fun _ _ _ h => h) (Or.inl ⟨by rfl, ?_⟩) (by assumption) ?_
        rotate_left
        · intro w5 hSw; (try dsimp only at hSw); go_simp; all_goals (with_reducible rfl)
        try simp only [List.getElem_toArray, List.getElem_cons_succ, List.getElem_cons_zero, Act.put, List.setIfInBounds_toArray, List.set_cons_zero, List.set_cons_succ]
        refine wpAnyH_take (i := 24) (oi := _) (v := ?_) rfl (by kernel_rfl) (by kernel_rfl) (by kernel_rfl) (fun _ _ _ h => h) (Or.inl ⟨by rfl, ?_⟩) (by assumption) ?_
        rotate_left
        · intro w5 hSw; (try dsimp only at hSw); go_simp; all_goals (with_reducible rfl)
        try simp only [List.getElem_toArray, List.getElem_cons_succ, List.getElem_cons_zero, Act.put, List.setIfInBounds_toArray, List.set_cons_zero, List.set_cons_succ]
        refine wpAnyH_take (i := 25) (oi := _) (v := ?_) rfl (by kernel_rfl) (by kernel_rfl) (by kernel_rfl) (fun _ _ _ h => h) (Or.inl ⟨by rfl, ?_⟩) (by assumption) ?_
        rotate_left
        · intro w5 hSw; (try dsimp only at hSw); go_simp; all_goals (with_reducible rfl)
        try simp only [List.getElem_toArray, List.getElem_cons_succ, List.getElem_cons_zero, Act.put, List.setIfInBounds_toArray, List.set_cons_zero, List.set_cons_succ]
        refine wpAnyH_take (i := 27) (oi := _) (v := ?_) rfl (by kernel_rfl) (by kernel_rfl) (by kernel_rfl) (fun _ _ _ h => h) (Or.inl ⟨by rfl, ?_⟩) (by assumption) ?_
        rotate_left
        · intro w5 hSw; (try dsimp only at hSw); go_simp; all_goals (with_reducible rfl)
        try simp only [List.getElem_toArray, List.getElem_cons_succ, List.getElem_cons_zero, Act.put, List.setIfInBounds_toArray, List.set_cons_zero, List.set_cons_succ]
        refine wpAnyH_ready (rs := [26]) (by kernel_rfl) (by simp) ?_
        refine AllReadyH.cons (o := _) rfl (fun K hK => ?_) AllReadyH.nil
        go_simp
        refine ((by have := version_live (c := c) nx lg sq HW4.out.r HSm.out; rwa [← Hn.out] at this : Calls _ _ _ _ _)).mono ?_
        rintro e w36 ⟨v7, l7, rfl, hr7, hp7, hbq⟩
        have HW5 := Kp.mk (HW4.out.below hbq)
        obtain ⟨A7, c7, e7⟩ := Kd.R_slice hr7
        subst e7
        have HP7 := Kp.mk hp7
        have HC7 := Kp.mk (Kd.R_reads' hr7).2.2
        obtain ⟨m7, hm7⟩ : ∃ m7, m7 = l7.length := ⟨_, rfl⟩
        rw [← hm7] at HC7 ⊢
        clear hm7 hr7 hp7
        clear hbq
        refine hK.out _ _ (HS.out _ HW5.out) (fun hHeld126 => ?_)
        clear hK K hHeld113 HW4
        try simp only [List.getElem_toArray, List.getElem_cons_succ, List.getElem_cons_zero, Act.put, List.setIfInBounds_toArray, List.set_cons_zero, List.set_cons_succ]
        refine wpAnyH_ready (rs := [28]) (by kernel_rfl) (by simp) ?_
        refine AllReadyH.cons (o := _) rfl (fun K hK => ?_) AllReadyH.nil
        go_simp
        refine ((by have := ref_live (c := c) nx lg sq HW5.out.r HSm.out; rwa [← Hn.out] at this : Calls _ _ _ _ _)).mono ?_
        rintro e w38 ⟨v8, l8, rfl, hr8, hp8, hbq⟩
        have HW6 := Kp.mk (HW5.out.below hbq)
        obtain ⟨A8, c8, e8⟩ := Kd.R_slice hr8
        subst e8
        have HEq : Kp (l7 = l8) := ⟨asc_ext HP7.out.1 hp8.1 (fun x => (HP7.out.2 x).trans (hp8.2 x).symm)⟩
        have HC8 := Kp.mk (Kd.R_reads' hr8).2.2
        have HC7b := Kp.mk (Kd.C_below HC7.out hbq)
        obtain ⟨m8, hm8⟩ : ∃ m8, m8 = l8.length := ⟨_, rfl⟩
        rw [← hm8] at HC8 ⊢
        clear hm8 hr8 hp8 HC7
        clear hbq
        refine hK.out _ _ (HS.out _ HW6.out) (fun hHeld128 => ?_)
        clear hK K hHeld126 HW5
        try simp only [List.getElem_toArray, List.getElem_cons_succ, List.getElem_cons_zero, Act.put, List.setIfInBounds_toArray, List.set_cons_zero, List.set_cons_succ]
        refine wpAnyH_ready (rs := [29]) (by kernel_rfl) (by simp) ?_
        refine AllReadyH.cons (o := _) rfl (fun K hK => ?_) AllReadyH.nil
        go_simp
        refine (same_ints HC7b.out HC8.out).mono ?_
        rintro e w39 ⟨b9, rfl, hv9, hbq⟩
        have HW7 := Kp.mk (HW6.out.below hbq)
        have hbt9 : b9 = true := hv9.2 HEq.out
        subst hbt9
        clear hv9
        clear hbq
        refine hK.out _ _ (HS.out _ HW7.out) (fun hHeld129 => ?_)
        clear hK K hHeld128 HW6
        try simp only [List.getElem_toArray, List.getElem_cons_succ, List.getElem_cons_zero, Act.put, List.setIfInBounds_toArray, List.set_cons_zero, List.set_cons_succ]
        refine wpAnyH_take (i := 30) (oi := _) (v := ?_) rfl (by kernel_rfl) (by kernel_rfl) (by kernel_rfl) (fun _ _ _ h => h) (Or.inl ⟨by rfl, ?_⟩) (by assumption) ?_
        rotate_left
        · intro w5 hSw; (try dsimp only at hSw); go_simp; all_goals (with_reducible rfl)
        try simp only [List.getElem_toArray, List.getElem_cons_succ, List.getElem_cons_zero, Act.put, List.setIfInBounds_toArray, List.set_cons_zero, List.set_cons_succ]
        refine wpAnyH_take (i := 31) (oi := _) (v := ?_) rfl (by kernel_rfl) (by kernel_rfl) (by kernel_rfl) (fun _ _ _ h => h) (Or.inl ⟨by rfl, ?_⟩) (by assumption) ?_
        rotate_left
        · intro w5 hSw; (try dsimp only at hSw); go_simp; all_goals (with_reducible rfl)
        try simp only [List.getElem_toArray, List.getElem_cons_succ, List.getElem_cons_zero, Act.put, List.setIfInBounds_toArray, List.set_cons_zero, List.set_cons_succ]
        refine wpAnyH_done (by kernel_rfl) ?_ _
        clear hHeld129
        go_wp2_with fail
        go_ret
        exact ⟨rfl, HW7.out.b⟩
end Go.Proofs.Ytgfkpddmjcgceaa.Kx
