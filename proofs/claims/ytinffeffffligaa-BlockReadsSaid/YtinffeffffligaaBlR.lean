import Derived.Test.YtinffeffffligaaBlM
import Derived.Test.YtinffeffffligaaBlB
import Derived.Test.YtinffeffffligaaBlD
set_option linter.unusedVariables false
set_option linter.unusedSimpArgs false
namespace Go.Proofs.Ytinffeffffligaa.Bas
open Go.RowKit Go.Maps

/-! ### Entries that may be -/
structure RightE (e : En) : Prop where
  key : RightK e.k
  len : e.val.length ≤ 4096
  val : e.k.kind = 1 ∨ e.val.length = 0
instance (e : En) : Decidable (RightE e) :=
  decidable_of_iff (RightK e.k ∧ e.val.length ≤ 4096 ∧ (e.k.kind = 1 ∨ e.val.length = 0)) ⟨fun ⟨a, b, c⟩ => ⟨a, b, c⟩, fun h => ⟨h.key, h.len, h.val⟩⟩
theorem rightE_cases (e : En) : (¬ RightK e.k ∧ ¬ RightE e) ∨ (RightK e.k ∧ 4096 < e.val.length ∧ ¬ RightE e) ∨ (RightK e.k ∧ e.val.length ≤ 4096 ∧ ((e.k.kind == 1) = true) ∧ RightE e) ∨
    (RightK e.k ∧ e.val.length ≤ 4096 ∧ ((e.k.kind == 1) = false) ∧ ((((e.val.length : Nat) : Int) == 0) = true) ∧ RightE e) ∨ (RightK e.k ∧ e.val.length ≤ 4096 ∧ ((e.k.kind == 1) = false) ∧ ((((e.val.length : Nat) : Int) == 0) = false) ∧ ¬ RightE e) := by
  by_cases h1 : RightK e.k
  · by_cases h2 : e.val.length ≤ 4096
    · by_cases h3 : e.k.kind = 1
      · exact .inr (.inr (.inl ⟨h1, h2, by simpa using h3, ⟨h1, h2, .inl h3⟩⟩))
      · by_cases h4 : e.val.length = 0
        · exact .inr (.inr (.inr (.inl ⟨h1, h2, by simpa using h3, by rw [h4]; rfl, ⟨h1, h2, .inr h4⟩⟩)))
        · exact .inr (.inr (.inr (.inr ⟨h1, h2, by simpa using h3, (by simp only [beq_eq_false_iff_ne, ne_eq]; omega), fun h => by rcases h.val with h | h <;> omega⟩)))
    · exact .inr (.inl ⟨h1, by omega, fun h => h2 h.len⟩)
  · exact .inl ⟨h1, fun h => h1 h.key⟩
set_option maxHeartbeats 2000000 in
set_option maxRecDepth 100000 in
theorem right_entry {w : World} {vs : Array Value} {e : En} (h : EnC w vs e) : Calls Try.prog 41 #[.agg vs] w fun en w' => en = .returned (.bool (decide (RightE e))) ∧ Below w.heap.size w w' := by
  obtain ⟨A, n, c, A', n', c', rfl, h1, h2, h3, h4⟩ := h
  have hcs := rightE_cases e
  rw [h3.len] at hcs
  have g0 := heap_alloc_new w (.cells #[.slice A n c, .int .u64 e.k.seq, .int .i64 e.k.kind, .slice A' n' c'] 48)
  have hb0 := alloc_below w (.cells #[.slice A n c, .int .u64 e.k.seq, .int .i64 e.k.kind, .slice A' n' c'] 48)
  have HC := Kp.mk (right_any (w := w.alloc (.cells #[.slice A n c, .int .u64 e.k.seq, .int .i64 e.k.kind, .slice A' n' c'] 48)) ⟨A, n, c, rfl, h1.below hb0, h2⟩)
  have HB0 := Kp.mk hb0
  have G0 := Kp.mk g0
  clear h1 h2 h3 h4 g0 hb0
  rcases hcs with ⟨a1, hk⟩ | ⟨a1, a2, hk⟩ | ⟨a1, a2, a3, hk⟩ | ⟨a1, a2, a3, a4, hk⟩ | ⟨a1, a2, a3, a4, hk⟩
  · have HK := Kp.mk hk
    have hd : decide (RightK e.k) = false := decide_eq_false a1
    rw [hd] at HC
    clear hk a1 hd
    go_enter Try.func41, Try.ntmps41
    go_wp2_with (go_at_call 42; refine HC.out.mono ?_; rintro en w1 ⟨rfl, hb1⟩; have HB1 := Kp.mk (HB0.out.trans (hb1.mono HB0.out.size)); clear hb1)
    go_ret
    exact ⟨ret_bool (by rw [decide_eq_false HK.out]), HB1.out⟩
  all_goals
    have HK := Kp.mk hk
    have hd : decide (RightK e.k) = true := decide_eq_true a1
    rw [hd] at HC
    clear hk a1 hd
    go_enter Try.func41, Try.ntmps41
    go_wp2_with (go_at_call 42; refine HC.out.mono ?_; rintro en w1 ⟨rfl, hb1⟩; have g1 := (hb1.block _ (lt_of_block G0.out)).trans G0.out; have c2 := cells_top g1 2 _ rfl; have c3 := cells_top g1 3 _ rfl; have HB1 := Kp.mk (HB0.out.trans (hb1.mono HB0.out.size)); clear hb1 g1)
    go_ret
    exact ⟨ret_bool (by first | rw [decide_eq_false HK.out] | rw [decide_eq_true HK.out]), HB1.out⟩
set_option maxHeartbeats 2000000 in
set_option maxRecDepth 100000 in
theorem ref_rightE {w : World} {vs : Array Value} {e : En} (h : EnC w vs e) : Calls Try.prog 44 #[.agg vs] w fun en w' => en = .returned (.bool (decide (RightE e))) ∧ Below w.heap.size w w' := by
  obtain ⟨A, n, c, A', n', c', rfl, h1, h2, h3, h4⟩ := h
  have hcs := rightE_cases e
  rw [h3.len] at hcs
  have g0 := heap_alloc_new w (.cells #[.slice A n c, .int .u64 e.k.seq, .int .i64 e.k.kind, .slice A' n' c'] 48)
  have hb0 := alloc_below w (.cells #[.slice A n c, .int .u64 e.k.seq, .int .i64 e.k.kind, .slice A' n' c'] 48)
  have HC := Kp.mk (ref_right (w := w.alloc (.cells #[.slice A n c, .int .u64 e.k.seq, .int .i64 e.k.kind, .slice A' n' c'] 48)) ⟨A, n, c, rfl, h1.below hb0, h2⟩)
  have HB0 := Kp.mk hb0
  have G0 := Kp.mk g0
  clear h1 h2 h3 h4 g0 hb0
  rcases hcs with ⟨a1, hk⟩ | ⟨a1, a2, hk⟩ | ⟨a1, a2, a3, hk⟩ | ⟨a1, a2, a3, a4, hk⟩ | ⟨a1, a2, a3, a4, hk⟩
  · have HK := Kp.mk hk
    have hd : decide (RightK e.k) = false := decide_eq_false a1
    rw [hd] at HC
    clear hk a1 hd
    go_enter Try.func44, Try.ntmps44
    go_wp2_with (go_at_call 62; refine HC.out.mono ?_; rintro en w1 ⟨rfl, hb1⟩; have HB1 := Kp.mk (HB0.out.trans (hb1.mono HB0.out.size)); clear hb1)
    go_ret
    exact ⟨ret_bool (by rw [decide_eq_false HK.out]), HB1.out⟩
  all_goals
    have HK := Kp.mk hk
    have hd : decide (RightK e.k) = true := decide_eq_true a1
    rw [hd] at HC
    clear hk a1 hd
    go_enter Try.func44, Try.ntmps44
    go_wp2_with (go_at_call 62; refine HC.out.mono ?_; rintro en w1 ⟨rfl, hb1⟩; have g1 := (hb1.block _ (lt_of_block G0.out)).trans G0.out; have c2 := cells_top g1 2 _ rfl; have c3 := cells_top g1 3 _ rfl; have HB1 := Kp.mk (HB0.out.trans (hb1.mono HB0.out.size)); clear hb1 g1)
    go_ret
    exact ⟨ret_bool (by first | rw [decide_eq_false HK.out] | rw [decide_eq_true HK.out]), HB1.out⟩
/-! ### Why entries can't be packed -/
def chkB (es : List En) : Int := if es.all (fun e => decide (RightE e)) then (if risesFrom es then (if 10000 < es.length then 3 else 0) else 10) else 1
theorem chk_one {es : List En} {k : Nat} (hk : k < es.length) (h : ¬ RightE (es.getD k enD)) : chkB es = 1 := by
  unfold chkB
  rw [if_neg]
  intro ha
  have := List.all_eq_true.1 ha (es.getD k enD) (by simp [List.getD, hk])
  exact h (of_decide_eq_true this)
theorem all_right {es : List En} (h : ∀ j, j < es.length → RightE (es.getD j enD)) : es.all (fun e => decide (RightE e)) = true := by
  rw [List.all_eq_true]
  intro x hx
  obtain ⟨i, hi, rfl⟩ := List.mem_iff_getElem.1 hx
  have := h i hi
  rw [List.getD_eq_getElem?_getD, List.getElem?_eq_getElem hi] at this
  exact decide_eq_true this
set_option maxHeartbeats 2000000 in
set_option maxRecDepth 100000 in
theorem ref_may {w : World} {A : Option Addr} {n c : Nat} {es : List En} (h : Es w A n c es) : Calls Try.prog 32 #[.slice A n c] w fun e w' => e = .returned (.int .i64 (chkB es)) ∧ Below w.heap.size w w' := by
  have hm := h.max
  have hl := h.len
  have H := Kp.mk h
  clear h
  go_enter Try.func32, Try.ntmps32
  go_wp2_with fail
  go_loopw [3] (fun i wr => ∃ k : Nat, k ≤ n ∧ i = .int .i64 k ∧ Kp (∀ j, j < k → RightE (es.getD j enD)) ∧ Kp (Below w.heap.size w wr)) (fun i _ => n - (intOf i).toNat)
  case atStart => exact ⟨0, Nat.zero_le _, rfl, ⟨fun j hj => by omega⟩, ⟨Below.refl _ _⟩⟩
  case round =>
    obtain ⟨k, hk, rfl, HA, HB⟩ := hrel
    by_cases hlt : k < n
    · obtain ⟨b, off, rfl, hc⟩ := (H.out.below HB.out).cell (by omega)
      obtain ⟨us, hu, hu'⟩ := hc k hlt
      obtain ⟨en, hen⟩ : ∃ en, en = es.getD k enD := ⟨_, rfl⟩
      rw [← hen] at hu
      have Hu := Kp.mk hu
      have Hen := Kp.mk hen
      obtain ⟨A0, n0, c0, A0', n0', c0', rfl, a1, a2, a3, a4⟩ := hu
      have x0 : wr.cell? ⟨b, off + k * 4, none⟩ = some (.slice A0 n0 c0) := hu' 0 _ rfl
      have x1 : wr.cell? ⟨b, off + k * 4 + 1, none⟩ = some (.int .u64 en.k.seq) := hu' 1 _ rfl
      have x2 : wr.cell? ⟨b, off + k * 4 + 2, none⟩ = some (.int .i64 en.k.kind) := hu' 2 _ rfl
      have x3 : wr.cell? ⟨b, off + k * 4 + 3, none⟩ = some (.slice A0' n0' c0') := hu' 3 _ rfl
      obtain ⟨r, hr⟩ : ∃ r, decide (RightE en) = r := ⟨_, rfl⟩
      have hcall := ref_rightE Hu.out
      rw [hr] at hcall
      have HC := Kp.mk hcall
      have Hr := Kp.mk hr
      clear hcall hr hc hu' a1 a2 a3 a4 hen
      cases r with
      | false =>
        have HD := Kp.mk (chk_one (es := es) (k := k) (by omega) (by rw [← Hen.out]; exact of_decide_eq_false Hr.out))
        go_wp2_with (go_at_call 44; refine HC.out.mono ?_; rintro e w1 ⟨rfl, hb1⟩; have HB1 := Kp.mk (HB.out.trans (hb1.mono HB.out.size)); clear hb1)
        go_ret
        exact ⟨ret_int HD.out.symm, HB1.out⟩
      | true =>
        have HA2 : Kp (∀ j, j < k + 1 → RightE (es.getD j enD)) := ⟨fun j hj => by
          by_cases hjk : j = k
          · rw [hjk, ← Hen.out]; exact of_decide_eq_true Hr.out
          · exact HA.out j (by omega)⟩
        clear HA
        go_wp2_with (go_at_call 44; refine HC.out.mono ?_; rintro e w1 ⟨rfl, hb1⟩; have HB1 := Kp.mk (HB.out.trans (hb1.mono HB.out.size)); clear hb1)
        go_roundw
        case rel => exact ⟨k + 1, by omega, by go_num, HA2, HB1⟩
        case measure => simp [intOf]; omega
    · have HAll := Kp.mk (all_right (es := es) (fun j hj => HA.out j (by omega)))
      obtain ⟨r, hr⟩ : ∃ r, risesFrom es = r := ⟨_, rfl⟩
      have hcall := ref_rising (H.out.below HB.out)
      rw [hr] at hcall
      have HC := Kp.mk hcall
      have Hr := Kp.mk hr
      have Hl := Kp.mk hl
      clear HA hcall hr hl
      cases r with
      | false =>
        go_wp2_with (go_at_call 45; refine HC.out.mono ?_; rintro e w1 ⟨rfl, hb1⟩; have HB1 := Kp.mk (HB.out.trans (hb1.mono HB.out.size)); clear hb1)
        go_ret
        exact ⟨ret_int (by unfold chkB; rw [HAll.out, Hr.out]; rfl), HB1.out⟩
      | true =>
        by_cases hbig : 10000 < n
        · go_wp2_with (go_at_call 45; refine HC.out.mono ?_; rintro e w1 ⟨rfl, hb1⟩; have HB1 := Kp.mk (HB.out.trans (hb1.mono HB.out.size)); clear hb1)
          go_ret
          exact ⟨ret_int (by unfold chkB; rw [HAll.out, Hr.out, if_pos rfl, if_pos rfl, if_pos (by rw [Hl.out]; exact hbig)]), HB1.out⟩
        · go_wp2_with (go_at_call 45; refine HC.out.mono ?_; rintro e w1 ⟨rfl, hb1⟩; have HB1 := Kp.mk (HB.out.trans (hb1.mono HB.out.size)); clear hb1)
          go_ret
          exact ⟨ret_int (by unfold chkB; rw [HAll.out, Hr.out, if_pos rfl, if_pos rfl, if_neg (by rw [Hl.out]; exact hbig)]), HB1.out⟩
set_option maxRecDepth 100000 in
theorem ref_between (w : World) (n a b : Int) : Calls Try.prog 34 #[.int .i64 n, .int .i64 a, .int .i64 b] w fun e w' => e = .returned (.int .i64 (if n < a then a else if b < n then b else n)) ∧ w' = w := by
  by_cases h1 : n < a
  · go_enter Try.func34, Try.ntmps34
    go_wp2_with fail
    go_ret
    exact ⟨ret_int (by first | rfl | (split <;> omega)), rfl⟩
  · by_cases h2 : b < n
    · go_enter Try.func34, Try.ntmps34
      go_wp2_with fail
      go_ret
      exact ⟨ret_int (by first | rfl | (split <;> omega)), rfl⟩
    · go_enter Try.func34, Try.ntmps34
      go_wp2_with fail
      go_ret
      exact ⟨ret_int (by first | rfl | (split <;> omega)), rfl⟩
end Go.Proofs.Ytinffeffffligaa.Bas
