import Derived.Test.YtpgkpigpehehmaaSymL
import Derived.Test.YtpgkpigpehehmaaMrgN
set_option linter.unusedVariables false
set_option linter.unusedSimpArgs false
namespace Go.Proofs.Ytpgkpigpehehmaa.Bas
open Go.RowKit Go.Maps Go.Sort Go.Shelf

/-- merge.All, of whatever lists. -/
theorem all_gen {w : World} {A : Option Addr} {n c : Nat} {ess : List (List En)} (h : Ls w A n c ess) (hT : ess.flatten.length ≤ 1000000) :
    Calls Try.prog 8 #[.slice A n c] w (AllQ w ess StR) := all_any h hT (sorts_any w _ hT) StR_nil
set_option maxHeartbeats 2000000 in
set_option maxRecDepth 100000 in
theorem same_entry {w : World} {us vs : Array Value} {e : En} (hu : EnC w us e) (hv : EnC w vs e) :
    Calls Try.prog 16 #[.agg us, .agg vs] w fun en w' => en = .returned (.bool true) ∧ Below w.heap.size w w' := by
  obtain ⟨A, n, c, A', n', c', rfl, h1, _, h3, _⟩ := hu
  obtain ⟨B, m, d, B', m', d', rfl, g1, _, g3, _⟩ := hv
  have hb := (alloc_below w (.cells #[.slice A n c, .int .u64 e.k.seq, .int .i64 e.k.kind, .slice A' n' c'] 40)).alloc (by simp) (.cells #[.slice B m d, .int .u64 e.k.seq, .int .i64 e.k.kind, .slice B' m' d'] 40)
  have k1 := rd_string (h1.below hb)
  have k2 := rd_string (h3.below hb)
  have k3 := rd_string (g1.below hb)
  have k4 := rd_string (g3.below hb)
  have HB := Kp.mk hb
  clear h1 h3 g1 g3 hb
  go_enter Try.func16, Try.ntmps16
  go_wp2
  go_ret
  exact ⟨rfl, HB.out⟩
set_option maxHeartbeats 4000000 in
set_option maxRecDepth 100000 in
theorem same_entries {w : World} {A B : Option Addr} {n c d : Nat} {es : List En} (h : Es w A n c es) (g : Es w B n d es) :
    Calls Try.prog 12 #[.slice A n c, .slice B n d] w fun en w' => en = .returned (.bool true) ∧ Below w.heap.size w w' := by
  have hm := h.max
  have H := Kp.mk h
  have G := Kp.mk g
  clear h g
  go_enter Try.func12, Try.ntmps12
  go_wp2_with fail
  go_loopw [5] (fun i wr => ∃ k : Nat, k ≤ n ∧ i = .int .i64 k ∧ Kp (Below w.heap.size w wr)) (fun i _ => n - (intOf i).toNat)
  case atStart => exact ⟨0, Nat.zero_le _, rfl, ⟨Below.refl _ _⟩⟩
  case round =>
    obtain ⟨k, hk, rfl, HB⟩ := hrel
    by_cases hlt : k < n
    · obtain ⟨b, off, rfl, hc⟩ := (H.out.below HB.out).cell (by omega)
      obtain ⟨b', off', rfl, hc'⟩ := (G.out.below HB.out).cell (by omega)
      obtain ⟨us, hu, hu'⟩ := hc k hlt
      obtain ⟨vs, hv, hv'⟩ := hc' k hlt
      have HC : Kp (∀ W, Below wr.heap.size wr W → Calls Try.prog 16 #[.agg us, .agg vs] W fun en w' => en = .returned (.bool true) ∧ Below W.heap.size W w') := ⟨fun W hb => same_entry (hu.below hb) (hv.below hb)⟩
      obtain ⟨A0, n0, c0, A0', n0', c0', rfl, a1, a2, a3, a4⟩ := hu
      obtain ⟨A1, n1, c1, A1', n1', c1', rfl, b1, b2, b3, b4⟩ := hv
      have x0 : wr.cell? ⟨b, off + k * 4, none⟩ = some (.slice A0 n0 c0) := hu' 0 _ rfl
      have x1 : wr.cell? ⟨b, off + k * 4 + 1, none⟩ = some (.int .u64 (es.getD k enD).k.seq) := hu' 1 _ rfl
      have x2 : wr.cell? ⟨b, off + k * 4 + 2, none⟩ = some (.int .i64 (es.getD k enD).k.kind) := hu' 2 _ rfl
      have x3 : wr.cell? ⟨b, off + k * 4 + 3, none⟩ = some (.slice A0' n0' c0') := hu' 3 _ rfl
      have y0 : wr.cell? ⟨b', off' + k * 4, none⟩ = some (.slice A1 n1 c1) := hv' 0 _ rfl
      have y1 : wr.cell? ⟨b', off' + k * 4 + 1, none⟩ = some (.int .u64 (es.getD k enD).k.seq) := hv' 1 _ rfl
      have y2 : wr.cell? ⟨b', off' + k * 4 + 2, none⟩ = some (.int .i64 (es.getD k enD).k.kind) := hv' 2 _ rfl
      have y3 : wr.cell? ⟨b', off' + k * 4 + 3, none⟩ = some (.slice A1' n1' c1') := hv' 3 _ rfl
      generalize (es.getD k enD).k.seq = sq at x1 y1 HC
      generalize (es.getD k enD).k.kind = kd at x2 y2 HC
      clear hu' hv' hc hc' a1 a2 a3 a4 b1 b2 b3 b4
      go_wp2_with fail
      have X0 := blw_cell x0
      have X1 := blw_cell x1
      have X2 := blw_cell x2
      have X3 := blw_cell x3
      have Y0 := blw_cell y0
      have Y1 := blw_cell y1
      have Y2 := blw_cell y2
      have Y3 := blw_cell y3
      clear x0 x1 x2 x3 y0 y1 y2 y3
      refine wp_region_below (by kernel_rfl) (by kernel_rfl) ?_
      repeat (first | go_big_quiet_step ((go_at_call 16; exact calls_blw (HC.out _ (Blw.h _)))) | quiet_step ((go_at_call 16; exact calls_blw (HC.out _ (Blw.h _)))))
      refine wpQuiet_nil ?_
      rintro _ ⟨pq, rfl⟩
      have HB1 := Kp.mk (HB.out.trans (pq.h.mono HB.out.size))
      go_wp2_with fail
      go_roundw
      case rel => exact ⟨k + 1, by omega, by go_num, HB1⟩
      case measure => simp [intOf]; omega
    · go_wp2_with fail
      go_ret
      exact ⟨rfl, HB.out⟩
/-! ### What the laws let in -/
def bigB (es : List En) : Bool := es.any (fun e => decide (300 < e.k.key.length) || decide (300 < e.val.length)) || decide (60 < es.length)
theorem bigB_true {es : List En} {k : Nat} (hk : k < es.length) (h : 300 < (es.getD k enD).k.key.length ∨ 300 < (es.getD k enD).val.length) : bigB es = true := by
  unfold bigB
  rw [Bool.or_eq_true, List.any_eq_true]
  refine .inl ⟨es.getD k enD, by simp [List.getD, hk], ?_⟩
  rw [Bool.or_eq_true]
  rcases h with h | h
  · exact .inl (decide_eq_true h)
  · exact .inr (decide_eq_true h)
theorem bigB_end {es : List En} (h : ∀ j, j < es.length → ¬ (300 < (es.getD j enD).k.key.length ∨ 300 < (es.getD j enD).val.length)) : bigB es = decide (60 < es.length) := by
  unfold bigB
  rw [show es.any (fun e => decide (300 < e.k.key.length) || decide (300 < e.val.length)) = false from ?_, Bool.false_or]
  rw [List.any_eq_false]
  intro x hx
  obtain ⟨i, hi, rfl⟩ := List.mem_iff_getElem.1 hx
  have := h i hi
  rw [List.getD_eq_getElem?_getD, List.getElem?_eq_getElem hi] at this
  simp at this ⊢
  omega
set_option maxHeartbeats 4000000 in
set_option maxRecDepth 100000 in
theorem big_any {w : World} {A : Option Addr} {n c : Nat} {es : List En} (h : Es w A n c es) : Calls Try.prog 14 #[.slice A n c] w fun e w' => e = .returned (.bool (bigB es)) ∧ w' = w := by
  have hm := h.max
  have hl := h.len
  have H := Kp.mk h
  clear h
  go_enter Try.func14, Try.ntmps14
  go_wp2_with fail
  go_loopw [3] (fun i wr => ∃ k : Nat, k ≤ n ∧ i = .int .i64 k ∧ Kp (∀ j, j < k → ¬ (300 < (es.getD j enD).k.key.length ∨ 300 < (es.getD j enD).val.length)) ∧ wr = w) (fun i _ => n - (intOf i).toNat)
  case atStart => exact ⟨0, Nat.zero_le _, rfl, ⟨fun j hj => by omega⟩, rfl⟩
  case round =>
    obtain ⟨k, hk, rfl, HN, rfl⟩ := hrel
    by_cases hlt : k < n
    · obtain ⟨b, off, rfl, hc⟩ := H.out.cell (by omega)
      obtain ⟨us, hu, hu'⟩ := hc k hlt
      obtain ⟨A0, n0, c0, A0', n0', c0', rfl, a1, a2, a3, a4⟩ := hu
      have x0 : wr.cell? ⟨b, off + k * 4, none⟩ = some (.slice A0 n0 c0) := hu' 0 _ rfl
      have x3 : wr.cell? ⟨b, off + k * 4 + 3, none⟩ = some (.slice A0' n0' c0') := hu' 3 _ rfl
      have l1 := a1.len
      have l3 := a3.len
      have HB := Kp.mk (fun h => bigB_true (es := es) (k := k) (by omega) h)
      have HK : Kp (¬ (300 < (es.getD k enD).k.key.length ∨ 300 < (es.getD k enD).val.length) → ∀ j, j < k + 1 → ¬ (300 < (es.getD j enD).k.key.length ∨ 300 < (es.getD j enD).val.length)) := ⟨fun h j hj => by
        by_cases hjk : j = k
        · rw [hjk]; exact h
        · exact HN.out j (by omega)⟩
      rw [l1, l3] at HB HK
      clear hu' hc a1 a2 a3 a4 l1 l3
      by_cases h1 : 300 < n0
      · have h1z : (300 : Int) < (n0 : Int) := by omega
        have hb := Kp.mk (HB.out (.inl h1))
        clear HB HK
        go_wp2_with fail
        go_ret
        exact ⟨ret_bool hb.out.symm, rfl⟩
      · have h1z : ¬ (300 : Int) < (n0 : Int) := by omega
        by_cases h2 : 300 < n0'
        · have h2z : (300 : Int) < (n0' : Int) := by omega
          have hb := Kp.mk (HB.out (.inr h2))
          clear HB HK
          go_wp2_with fail
          go_ret
          exact ⟨ret_bool hb.out.symm, rfl⟩
        · have h2z : ¬ (300 : Int) < (n0' : Int) := by omega
          have HN' := Kp.mk (HK.out (by omega))
          clear HB HK HN
          go_wp2_with fail
          go_roundw
          case rel => exact ⟨k + 1, by omega, by go_num, HN', by first | rfl | trivial⟩
          case measure => simp [intOf]; omega
    · have hb := Kp.mk (bigB_end (es := es) (fun j hj => HN.out j (by omega)))
      clear HN
      go_wp2_with fail
      go_ret
      exact ⟨ret_bool (by rw [hb.out, hl]; by_cases h60 : 60 < n <;> simp [h60] <;> omega), rfl⟩
end Go.Proofs.Ytpgkpigpehehmaa.Bas
