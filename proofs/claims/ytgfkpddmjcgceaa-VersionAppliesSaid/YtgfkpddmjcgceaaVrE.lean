import Derived.Test.YtgfkpddmjcgceaaVrC
set_option linter.unusedVariables false
set_option linter.unusedSimpArgs false
namespace Go.Proofs.Ytgfkpddmjcgceaa.Kx
open Go.RowKit Go.Maps Go.Proofs.YtgfkpddmjcgceaaW.PrintWords

def IdxP (xs : List Int) (x : Int) (w : World) (e : Ending) (w' : World) : Prop := ∃ r : Int, e = .returned (.int .i64 r) ∧ firstI (fun a : Int => a = x) xs 0 r ∧ w' = w
set_option maxHeartbeats 1000000 in
set_option maxRecDepth 100000 in
theorem index_int {w : World} {A : Option Addr} {n c : Nat} {xs : List Int} (x : Int) (h : (Kd.int .i64).C w A n xs) :
    Calls Try.prog 49 #[.slice A n c, .int .i64 x] w (IdxP xs x w) := by
  have hl := h.1
  have hm := h.2.1
  have H := Kp.mk h
  clear h
  go_enter Try.func49, Try.ntmps49
  go_wp2
  go_loop [8] (fun i => ∃ k : Nat, k ≤ n ∧ i = .int .i64 k ∧ Kp (∀ j, j < k → ¬ xs.getD j 0 = x)) (fun i => n - (intOf i).toNat)
  case atStart => exact ⟨0, Nat.zero_le _, rfl, ⟨by omega⟩⟩
  case round =>
    obtain ⟨k, hk, rfl, HN⟩ := hrel
    by_cases hlt : k < n
    · obtain ⟨ad, rfl, c1⟩ := ints_at H.out k hlt
      obtain ⟨y, hy⟩ : ∃ y, xs.getD k 0 = y := ⟨_, rfl⟩
      rw [hy] at c1
      have Hy := Kp.mk hy
      clear hy
      by_cases e : y = x
      · have hv : Kp (firstI (fun a : Int => a = x) xs 0 k) := ⟨.inr ⟨k, rfl, by omega, Hy.out.trans e, HN.out⟩⟩
        have he : (x == y) = true := by simpa using e.symm
        clear e
        go_wp2
        go_ret
        exact ⟨_, rfl, hv.out, rfl⟩
      · have hv : Kp (∀ j, j < k + 1 → ¬ xs.getD j 0 = x) := ⟨fun j hj => by
          by_cases hjk : j = k
          · subst hjk; rw [Hy.out]; exact e
          · exact HN.out j (by omega)⟩
        have he : (x == y) = false := by simpa using fun h => e h.symm
        clear e
        go_wp2
        go_round
        case rel => exact ⟨k + 1, by omega, by go_num, hv⟩
        case measure => simp [intOf]; omega
    · have hv : Kp (firstI (fun a : Int => a = x) xs 0 (-1)) := ⟨.inl ⟨rfl, fun j hj => HN.out j (by omega)⟩⟩
      go_wp2
      go_ret
      exact ⟨_, rfl, hv.out, rfl⟩
theorem firstI_ge {α : Type} {p : α → Prop} {l : List α} {z : α} {r : Int} (h : firstI p l z r) : (0 ≤ r ∧ ∃ j, j < l.length ∧ p (l.getD j z)) ∨ (r < 0 ∧ ∀ j, j < l.length → ¬ p (l.getD j z)) := by
  rcases h with ⟨rfl, h⟩ | ⟨j, rfl, h1, h2, h3⟩
  · exact .inr ⟨by omega, h⟩
  · exact .inl ⟨by omega, j, h1, h2⟩
theorem getD_mem {α : Type} {l : List α} {z : α} {j : Nat} (h : j < l.length) : l.getD j z ∈ l := by
  have : l.getD j z = l[j] := by simp [List.getD, h]
  rw [this]; exact List.getElem_mem h
theorem mem_getD {α : Type} {l : List α} {z x : α} (h : x ∈ l) : ∃ j, j < l.length ∧ l.getD j z = x := by
  obtain ⟨j, hj, e⟩ := List.mem_iff_getElem.1 h
  exact ⟨j, hj, by rw [← e]; simp [List.getD, hj]⟩
theorem firstI_has {l : List Int} {x r : Int} (h : firstI (fun a : Int => a = x) l 0 r) : decide (0 ≤ r) = decide (x ∈ l) := by
  rcases firstI_ge h with ⟨h1, j, h2, h3⟩ | ⟨h1, h2⟩
  · rw [decide_eq_true h1, decide_eq_true]
    have := getD_mem (z := 0) h2
    rwa [h3] at this
  · rw [decide_eq_false (by omega), decide_eq_false]
    intro hx
    obtain ⟨j, hj, e⟩ := mem_getD (z := 0) hx
    exact h2 j hj e
set_option maxHeartbeats 1000000 in
theorem contains_int {w : World} {A : Option Addr} {n c : Nat} {xs : List Int} (x : Int) (h : (Kd.int .i64).C w A n xs) :
    Calls Try.prog 40 #[.slice A n c, .int .i64 x] w fun e w' => e = .returned (.bool (decide (x ∈ xs))) ∧ w' = w := by
  have H := Kp.mk h
  clear h
  go_enter Try.func40, Try.ntmps40
  go_wp2_with (go_at_call 49; refine (index_int x H.out).mono ?_; rintro e w' ⟨r, rfl, hf, rfl⟩; have HF := Kp.mk hf; clear hf)
  all_goals
    go_ret
    refine ⟨ret_bool (by first | exact firstI_has HF.out | (have e := firstI_has HF.out; rw [← e]; symm; first | (apply decide_eq_true; omega) | (apply decide_eq_false; omega))), rfl⟩

/-! ### the test of a run's file -/
theorem with_any (A : Option Addr) (n c : Nat) (w : World) : Calls Try.prog 24 #[.slice A n c] w fun e w' => e = .returned (.func (.func 41) #[] #[.pointer (some ⟨w.heap.size, 0, none⟩)]) ∧ w' = w.alloc (.cells #[.slice A n c] 29) := by
  go_enter Try.func24, Try.ntmps24
  go_wp2
  go_ret
  exact ⟨rfl, rfl⟩
set_option maxHeartbeats 1000000 in
theorem with_test {w : World} {A : Option Addr} {n c p : Nat} {xs : List Int} (f : Int) (v1 v2 v3 v4 v5 : Value) (hp : w.cell? ⟨p, 0, none⟩ = some (.slice A n c)) (h : (Kd.int .i64).C w A n xs) :
    Calls Try.prog 41 #[.agg #[.int .i64 f, v1, v2, v3, v4, v5], .pointer (some ⟨p, 0, none⟩)] w fun e w' => e = .returned (.bool (decide (f ∈ xs))) ∧ Below w.heap.size w w' := by
  have H := Kp.mk h
  clear h
  have hne := World.block_lt_of_cell? w _ hp
  go_enter Try.func41, Try.ntmps41
  go_wp2_with (go_at_call 40; refine (contains_int f (Kd.C_alloc H.out _)).mono ?_; rintro e w' ⟨rfl, rfl⟩)
  go_ret
  exact ⟨rfl, below_alloc (Below.refl _ _) _⟩
def PlaceQ (p : Rn → Prop) (rs : List Rn) (w : World) (e : Ending) (w' : World) : Prop := ∃ r : Int, e = .returned (.int .i64 r) ∧ firstI p rs zRn r ∧ Below w.heap.size w w'
set_option maxHeartbeats 1000000 in
set_option maxRecDepth 100000 in
theorem index_func {w : World} {A A' : Option Addr} {n c n' c' p : Nat} {rs : List Rn} {xs : List Int} (h : kRn.C w A n rs) (hp : w.cell? ⟨p, 0, none⟩ = some (.slice A' n' c')) (h' : (Kd.int .i64).C w A' n' xs) :
    Calls Try.prog 23 #[.slice A n c, .func (.func 41) #[] #[.pointer (some ⟨p, 0, none⟩)]] w (PlaceQ (fun a => a.file ∈ xs) rs w) := by
  have hl := h.1
  have hm := h.2.1
  have H := Kp.mk h
  have H' := Kp.mk h'
  have HP := Kp.mk hp
  clear h h' hp
  go_enter Try.func23, Try.ntmps23
  go_wp2
  go_loopw [8] (fun i wr => ∃ k : Nat, k ≤ n ∧ i = .int .i64 k ∧ Kp (∀ j, j < k → ¬ (rs.getD j zRn).file ∈ xs) ∧ Kp (Below w.heap.size w wr)) (fun i _ => n - (intOf i).toNat)
  case atStart => exact ⟨0, Nat.zero_le _, rfl, ⟨by omega⟩, ⟨Below.refl _ _⟩⟩
  case round =>
    obtain ⟨k, hk, rfl, HN, HB⟩ := hrel
    by_cases hlt : k < n
    · obtain ⟨ad, A3, c3, A4, c4, rfl, c0, c1, c2, c3', c4', c5, _⟩ := rn_at (Kd.C_below H.out HB.out) k hlt
      obtain ⟨r, hr⟩ : ∃ r, rs.getD k zRn = r := ⟨_, rfl⟩
      rw [hr] at c0 c1 c2 c3' c4' c5
      have Hr := Kp.mk hr
      clear hr
      have HWs := Kp.mk HB.out.size
      by_cases e : r.file ∈ xs
      · have hd : Kp (decide (r.file ∈ xs) = true) := ⟨decide_eq_true e⟩
        have hv : Kp (firstI (fun a : Rn => a.file ∈ xs) rs zRn k) := ⟨.inr ⟨k, rfl, by omega, by rw [Hr.out]; exact e, HN.out⟩⟩
        clear e
        go_wp2_with (go_at_call 41; refine (with_test _ _ _ _ _ _ (pw_cell_below HB.out HP.out) (Kd.C_below H'.out HB.out)).mono ?_; rintro e w1 ⟨rfl, hb1⟩; rw [hd.out]; have HB1 := Kp.mk (below_then HB.out HWs.out hb1); clear hb1)
        go_ret
        exact ⟨_, rfl, hv.out, HB1.out⟩
      · have hd : Kp (decide (r.file ∈ xs) = false) := ⟨decide_eq_false e⟩
        have hv : Kp (∀ j, j < k + 1 → ¬ (rs.getD j zRn).file ∈ xs) := ⟨fun j hj => by
          by_cases hjk : j = k
          · subst hjk; rw [Hr.out]; exact e
          · exact HN.out j (by omega)⟩
        clear e
        go_wp2_with (go_at_call 41; refine (with_test _ _ _ _ _ _ (pw_cell_below HB.out HP.out) (Kd.C_below H'.out HB.out)).mono ?_; rintro e w1 ⟨rfl, hb1⟩; rw [hd.out]; have HB1 := Kp.mk (below_then HB.out HWs.out hb1); clear hb1)
        go_roundw
        case rel => exact ⟨k + 1, by omega, by go_num, hv, HB1⟩
        case measure => simp [intOf]; omega
    · have hv : Kp (firstI (fun a : Rn => a.file ∈ xs) rs zRn (-1)) := ⟨.inl ⟨rfl, fun j hj => HN.out j (by omega)⟩⟩
      go_wp2
      go_ret
      exact ⟨_, rfl, hv.out, HB.out⟩
def AnyQ (P : Prop) (w : World) (e : Ending) (w' : World) : Prop := ∃ b : Bool, e = .returned (.bool b) ∧ (b = true ↔ P) ∧ Below w.heap.size w w'
set_option maxHeartbeats 1000000 in
theorem contains_func {w : World} {A A' : Option Addr} {n c n' c' p : Nat} {rs : List Rn} {xs : List Int} (h : kRn.C w A n rs) (hp : w.cell? ⟨p, 0, none⟩ = some (.slice A' n' c')) (h' : (Kd.int .i64).C w A' n' xs) :
    Calls Try.prog 39 #[.slice A n c, .func (.func 41) #[] #[.pointer (some ⟨p, 0, none⟩)]] w (AnyQ (∃ j, j < rs.length ∧ (rs.getD j zRn).file ∈ xs) w) := by
  have Hc := Kp.mk (index_func (c := c) h hp h')
  clear h hp h'
  go_enter Try.func39, Try.ntmps39
  go_wp2_with (go_at_call 23; refine Hc.out.mono ?_; rintro e w1 ⟨r, rfl, hf, hb⟩; have HF := Kp.mk (firstI_ge hf); have HB := Kp.mk hb; clear hf hb)
  all_goals
    go_ret
    refine ⟨_, rfl, ?_, HB.out⟩
    rcases HF.out with ⟨h1, h2⟩ | ⟨h1, h2⟩
    · exact ⟨fun _ => h2, fun _ => by first | exact decide_eq_true h1 | rfl | (exfalso; omega)⟩
    · exact ⟨fun h => by first | (have := of_decide_eq_true h; omega) | (exfalso; omega), fun ⟨j, a, b⟩ => absurd b (h2 j a)⟩
end Go.Proofs.Ytgfkpddmjcgceaa.Kx
