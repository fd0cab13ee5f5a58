import Derived.Test.YtinffeffffligaaBasE
import Derived.Deep.RegionHeld3
import Derived.Sort.Grow
set_option linter.unusedVariables false
set_option linter.unusedSimpArgs false
namespace Go.Proofs.Ytinffeffffligaa.Bas
open Go.RowKit Go.Maps Go.Sort

/-! ### A key with its number -/
structure Ky where
  key : List Int
  seq : Int
  kind : Int
def or3 (a b c : Int) : Int := if a ≠ 0 then a else if b ≠ 0 then b else c
def keyCmp (a b : Ky) : Int := or3 (cmpI a.key b.key) (cmpN b.seq a.seq) (cmpN b.kind a.kind)

set_option maxHeartbeats 1000000 in
set_option maxRecDepth 100000 in
theorem or_any (w : World) (x y z : Int) (q c : Nat) (h0 : w.cell? ⟨q, 0, none⟩ = some (.int .i64 x)) (h1 : w.cell? ⟨q, 1, none⟩ = some (.int .i64 y)) (h2 : w.cell? ⟨q, 2, none⟩ = some (.int .i64 z)) :
    Calls Try.prog 58 #[.slice (some ⟨q, 0, none⟩) 3 c] w fun e w' => e = .returned (.int .i64 (or3 x y z)) ∧ w' = w := by
  go_enter Try.func58, Try.ntmps58
  go_wp2_with fail
  go_loopw [8] (fun i wr => ∃ k : Nat, k ≤ 3 ∧ i = .int .i64 k ∧ Kp ((0 < k → x = 0) ∧ (1 < k → y = 0) ∧ (2 < k → z = 0)) ∧ wr = w) (fun i _ => 3 - (intOf i).toNat)
  case atStart => exact ⟨0, by omega, rfl, ⟨by omega, by omega, by omega⟩, rfl⟩
  case round =>
    obtain ⟨k, hk, rfl, HP, rfl⟩ := hrel
    obtain ⟨hp0, hp1, hp2⟩ := HP.out
    have hcase : k = 0 ∨ k = 1 ∨ k = 2 ∨ k = 3 := by omega
    rcases hcase with rfl | rfl | rfl | rfl
    · clear hp0 hp1 hp2
      by_cases hx : x = 0
      · have hne : (x != 0) = false := by simp [hx]
        have Hx := Kp.mk hx
        go_wp2
        go_roundw
        case rel => exact ⟨1, by omega, rfl, ⟨fun _ => Hx.out, by omega, by omega⟩, trivial⟩
        case measure => decide
      · have hne : (x != 0) = true := by simp [hx]
        have hv : Kp (x = or3 x y z) := ⟨by simp [or3, hx]⟩
        clear hx
        go_wp2
        go_ret
        exact ⟨ret_int hv.out, rfl⟩
    · have hx : x = 0 := hp0 (by omega)
      clear hp0 hp1 hp2
      by_cases hy : y = 0
      · have hne : (y != 0) = false := by simp [hy]
        have Hx := Kp.mk hx
        have Hy := Kp.mk hy
        clear hx
        go_wp2
        go_roundw
        case rel => exact ⟨2, by omega, rfl, ⟨fun _ => Hx.out, fun _ => Hy.out, by omega⟩, trivial⟩
        case measure => decide
      · have hne : (y != 0) = true := by simp [hy]
        have hv : Kp (y = or3 x y z) := ⟨by simp [or3, hx, hy]⟩
        clear hx hy
        go_wp2
        go_ret
        exact ⟨ret_int hv.out, rfl⟩
    · have hx : x = 0 := hp0 (by omega)
      have hy : y = 0 := hp1 (by omega)
      clear hp0 hp1 hp2
      by_cases hz : z = 0
      · have hne : (z != 0) = false := by simp [hz]
        have Hx := Kp.mk hx
        have Hy := Kp.mk hy
        have Hz := Kp.mk hz
        clear hx hy
        go_wp2
        go_roundw
        case rel => exact ⟨3, by omega, rfl, ⟨fun _ => Hx.out, fun _ => Hy.out, fun _ => Hz.out⟩, trivial⟩
        case measure => decide
      · have hne : (z != 0) = true := by simp [hz]
        have hv : Kp (z = or3 x y z) := ⟨by simp [or3, hx, hy]⟩
        clear hx hy hz
        go_wp2
        go_ret
        exact ⟨ret_int hv.out, rfl⟩
    · have hv : Kp (0 = or3 x y z) := ⟨by simp [or3, hp0 (by omega), hp1 (by omega), hp2 (by omega)]⟩
      clear hp0 hp1 hp2 HP
      go_wp2
      go_ret
      exact ⟨ret_int hv.out, rfl⟩

/-- How a key reads. -/
def KyV (w : World) (v : Value) (k : Ky) : Prop := ∃ A n c, v = .agg #[.slice A n c, .int .u64 k.seq, .int .i64 k.kind] ∧ Rd w .u8 A n c k.key ∧ Byt k.key
theorem KyV.below {w W : World} {v : Value} {k : Ky} (h : KyV w v k) (hb : Below w.heap.size w W) : KyV W v k := by
  obtain ⟨A, n, c, hv, hr, hk⟩ := h
  exact ⟨A, n, c, hv, hr.below hb, hk⟩

theorem rd_alloc {w : World} {k : IntKind} {A : Option Addr} {n c : Nat} {xs : List Int} {o : Obj} (h : Rd w k A n c xs) : Rd (w.alloc o) k A n c xs := h.below (alloc_below w o)
theorem rd_drew {w : World} {k : IntKind} {A : Option Addr} {n c : Nat} {xs : List Int} (h : Rd w k A n c xs) : Rd w.drew k A n c xs := h.below ((Below.refl _ _).drew)
attribute [local simp] rd_alloc rd_drew
theorem cell_kept {w W : World} {a : Addr} {v : Value} (hb : Below w.heap.size w W) (h : w.cell? a = some v) : W.cell? a = some v := by
  have := hb.block a.block (World.block_lt_of_cell? w a h)
  simpa [World.cell?, this] using h
theorem cell_new (w : World) (C : Array Value) (t : TypeId) (j : Nat) (v : Value) (h : C[j]? = some v) : (w.alloc (.cells C t)).cell? ⟨w.heap.size, j, none⟩ = some v := cells_top (heap_alloc_new w _) j v h

theorem cell_newd (w : World) (C : Array Value) (t : TypeId) (q j : Nat) (v : Value) (hq : w.heap.size = q) (h : C[j]? = some v) : (w.alloc (.cells C t)).drew.cell? ⟨q, j, none⟩ = some v := by
  subst hq
  exact cell_new w C t j v h
/-- New blocks, and draws. -/
def Gr (w W : World) : Prop := ∃ q os, W = grow (w.drewN q) os
theorem Gr.refl (w : World) : Gr w w := ⟨0, #[], by simp [World.drewN_zero]⟩
theorem Gr.alloc {w W : World} (h : Gr w W) (o : Obj) : Gr w (W.alloc o) := by
  obtain ⟨q, os, rfl⟩ := h
  exact ⟨q, os.push o, by simp [grow, World.alloc]⟩
theorem Gr.drewN {w W : World} (h : Gr w W) (n : Nat) : Gr w (W.drewN n) := by
  obtain ⟨q, os, rfl⟩ := h
  exact ⟨q + n, os, by rw [← World.drewN_drewN]; rfl⟩
theorem Gr.drew {w W : World} (h : Gr w W) : Gr w W.drew := h.drewN 1
theorem Gr.trans {w W V : World} (h : Gr w W) (k : Gr W V) : Gr w V := by
  obtain ⟨q, os, rfl⟩ := h
  obtain ⟨r, os', rfl⟩ := k
  refine ⟨q + r, os ++ os', ?_⟩
  rw [← World.drewN_drewN, ← grow_grow]
  rfl
theorem Gr.below {w W : World} (h : Gr w W) : Below w.heap.size w W := by
  obtain ⟨q, os, rfl⟩ := h
  refine (below_drewN (Below.refl _ _) q).trans ⟨rfl, rfl, rfl, by simp [grow], fun k hk => ?_⟩
  show ((w.drewN q).heap ++ os)[k]? = _
  exact Array.getElem?_append_left hk
set_option maxHeartbeats 1000000 in
set_option maxRecDepth 100000 in
theorem key_compare_g {w : World} {u v : Value} {a b : Ky} (ha : KyV w u a) (hb : KyV w v b) :
    Calls Try.prog 39 #[u, v] w fun e w' => e = .returned (.int .i64 (keyCmp a b)) ∧ Gr w w' := by
  obtain ⟨A, n, c, rfl, hr, hk⟩ := ha
  obtain ⟨A', n', c', rfl, hr', hk'⟩ := hb
  have H := Kp.mk hr
  have H' := Kp.mk hr'
  have HV : Kp (keyCmp a b = or3 (cmpI a.key b.key) (cmpN b.seq a.seq) (cmpN b.kind a.kind)) := ⟨rfl⟩
  clear hr hk hr' hk'
  go_enter Try.func39, Try.ntmps39
  go_wp2_with fail
  have h1 : Rd ((w.alloc (.cells #[.slice A n c, .int .u64 a.seq, .int .i64 a.kind] 46)).alloc (.cells #[.slice A' n' c', .int .u64 b.seq, .int .i64 b.kind] 46)) .u8 A n c a.key := rd_alloc (rd_alloc H.out)
  have h2 : Rd ((w.alloc (.cells #[.slice A n c, .int .u64 a.seq, .int .i64 a.kind] 46)).alloc (.cells #[.slice A' n' c', .int .u64 b.seq, .int .i64 b.kind] 46)) .u8 A' n' c' b.key := rd_alloc (rd_alloc H'.out)
  go_region_held3 (fun W => Rd W .u8 A n c a.key ∧ Rd W .u8 A' n' c' b.key ∧ W.cell? ⟨w.heap.size, 0, none⟩ = some (.slice A n c) ∧ W.cell? ⟨w.heap.size, 1, none⟩ = some (.int .u64 a.seq) ∧ W.cell? ⟨w.heap.size, 2, none⟩ = some (.int .i64 a.kind) ∧ W.cell? ⟨w.heap.size + 1, 0, none⟩ = some (.slice A' n' c') ∧ W.cell? ⟨w.heap.size + 1, 1, none⟩ = some (.int .u64 b.seq) ∧ W.cell? ⟨w.heap.size + 1, 2, none⟩ = some (.int .i64 b.kind)) (go_keep)
    (first
    | (go_at_call 59; refine (bytes_compare (xs := a.key) (ys := b.key) ?_ ?_).mono ?_; (simp [*]); (simp [*]); rintro e w1 ⟨rfl, rfl⟩)
    | (go_at_call 60; refine (compare_u64 _ _ _).mono ?_; rintro e w1 ⟨rfl, rfl⟩)
    | (go_at_call 61; refine (compare_int _ _ _).mono ?_; rintro e w1 ⟨rfl, rfl⟩)
    | (go_at_call 58; refine (or_any _ (cmpI a.key b.key) (cmpN b.seq a.seq) (cmpN b.kind a.kind) _ _ ?_ ?_ ?_).mono ?_; (refine cell_newd _ _ _ _ 0 _ ?_ ?_; (simp); rfl); (refine cell_newd _ _ _ _ 1 _ ?_ ?_; (simp); rfl); (refine cell_newd _ _ _ _ 2 _ ?_ ?_; (simp); rfl); rintro e w1 ⟨rfl, rfl⟩))
  all_goals
    go_wp2
    go_ret
    exact ⟨ret_int HV.out.symm, ((((Gr.refl w).alloc _).alloc _).alloc _).drew⟩
theorem key_compare {w : World} {u v : Value} {a b : Ky} (ha : KyV w u a) (hb : KyV w v b) :
    Calls Try.prog 39 #[u, v] w fun e w' => e = .returned (.int .i64 (keyCmp a b)) ∧ Below w.heap.size w w' :=
  (key_compare_g ha hb).mono fun e w' ⟨he, hg⟩ => ⟨he, hg.below⟩

set_option maxHeartbeats 1000000 in
set_option maxRecDepth 100000 in
theorem ref_key_compare {w : World} {u v : Value} {a b : Ky} (ha : KyV w u a) (hb : KyV w v b) :
    Calls Try.prog 19 #[u, v] w fun e w' => e = .returned (.int .i64 (keyCmp a b)) ∧ Below w.heap.size w w' := by
  obtain ⟨A, n, c, rfl, hr, hk⟩ := ha
  obtain ⟨A', n', c', rfl, hr', hk'⟩ := hb
  have H := Kp.mk hr
  have H' := Kp.mk hr'
  have K1 := Kp.mk hk
  have K2 := Kp.mk hk'
  have HV : Kp (keyCmp a b = or3 (cmpI a.key b.key) (cmpN b.seq a.seq) (cmpN b.kind a.kind)) := ⟨rfl⟩
  clear hr hk hr' hk'
  go_enter Try.func19, Try.ntmps19
  go_wp2_with fail
  have hbW : Below w.heap.size w ((w.alloc (.cells #[.slice A n c, .int .u64 a.seq, .int .i64 a.kind] 46)).alloc (.cells #[.slice A' n' c', .int .u64 b.seq, .int .i64 b.kind] 46)) := ((alloc_below w _)).trans ((alloc_below _ _).mono (by simp))
  have HbW := Kp.mk hbW
  have g1 : ∀ j v, (#[.slice A n c, .int .u64 a.seq, .int .i64 a.kind] : Array Value)[j]? = some v → ((w.alloc (.cells #[.slice A n c, .int .u64 a.seq, .int .i64 a.kind] 46)).alloc (.cells #[.slice A' n' c', .int .u64 b.seq, .int .i64 b.kind] 46)).cell? ⟨w.heap.size, j, none⟩ = some v := fun j v h => cell_kept (alloc_below _ _) (cell_new w _ _ j v h)
  have g2 : ∀ j v, (#[.slice A' n' c', .int .u64 b.seq, .int .i64 b.kind] : Array Value)[j]? = some v → ((w.alloc (.cells #[.slice A n c, .int .u64 a.seq, .int .i64 a.kind] 46)).alloc (.cells #[.slice A' n' c', .int .u64 b.seq, .int .i64 b.kind] 46)).cell? ⟨w.heap.size + 1, j, none⟩ = some v := fun j v h => by have := cell_new (w.alloc (.cells #[.slice A n c, .int .u64 a.seq, .int .i64 a.kind] 46)) _ 46 j v h; simpa using this
  have G1 := Kp.mk g1
  have G2 := Kp.mk g2
  clear g1 g2
  clear hbW
  refine (ref_compare (H.out.below HbW.out) (H'.out.below HbW.out) K1.out K2.out).mono ?_
  rintro e w1 ⟨rfl, hb1⟩
  have HB := Kp.mk (HbW.out.trans (hb1.mono HbW.out.size))
  have d1 := cell_kept hb1 (G1.out 1 _ rfl)
  have d2 := cell_kept hb1 (G1.out 2 _ rfl)
  have d3 := cell_kept hb1 (G2.out 1 _ rfl)
  have d4 := cell_kept hb1 (G2.out 2 _ rfl)
  clear hb1
  generalize cmpI a.key b.key = x at *
  by_cases hx : x = 0
  · subst hx
    rcases Int.lt_trichotomy b.seq a.seq with h | h | h
    · have hv : Kp (keyCmp a b = -1) := ⟨by rw [HV.out, cmpN_lt h]; rfl⟩
      go_wp2
      go_ret
      exact ⟨ret_int hv.out.symm, HB.out⟩
    · rcases Int.lt_trichotomy b.kind a.kind with h2 | h2 | h2
      · have hv : Kp (keyCmp a b = -1) := ⟨by rw [HV.out, cmpN_eq h, cmpN_lt h2]; rfl⟩
        go_wp2
        go_ret
        exact ⟨ret_int hv.out.symm, HB.out⟩
      · have hv : Kp (keyCmp a b = 0) := ⟨by rw [HV.out, cmpN_eq h, cmpN_eq h2]; rfl⟩
        go_wp2
        go_ret
        exact ⟨ret_int hv.out.symm, HB.out⟩
      · have hv : Kp (keyCmp a b = 1) := ⟨by rw [HV.out, cmpN_eq h, cmpN_gt h2]; rfl⟩
        go_wp2
        go_ret
        exact ⟨ret_int hv.out.symm, HB.out⟩
    · have hv : Kp (keyCmp a b = 1) := ⟨by rw [HV.out, cmpN_gt h]; rfl⟩
      go_wp2
      go_ret
      exact ⟨ret_int hv.out.symm, HB.out⟩
  · have hne : (x != 0) = true := by simpa using hx
    have hv : Kp (keyCmp a b = x) := ⟨by rw [HV.out]; simp [or3, hx]⟩
    clear hx
    go_wp2
    go_ret
    exact ⟨ret_int hv.out.symm, HB.out⟩
end Go.Proofs.Ytinffeffffligaa.Bas
