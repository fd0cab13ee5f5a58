/- For every whole number and every list of lists of bytes the law DiskRoom answers true: there never is more than there is room, and what does not fit changes nothing. No condition. -/
import Derived.Test.YtgeklapphkgdkaaRows
import Derived.Test.YtgeklapphkgdkaaDskO
import Derived.WalkKit
import Derived.ProofKit
import Derived.OpenShut
import Derived.ShutString
import Derived.ChangeOld
import Derived.Below
import Derived.Deep.Matrix
namespace Go.Proofs.Ytgeklapphkgdkaa.diskRoom
open Go.ChangeShapes Go.WideShapes Go.ChangeAt Go.RowKit
open Go.ChangeMaps (open_string shut_string)
open Go.Proofs.Ytgeklapphkgdkaa.Dsk
set_option linter.unusedVariables false
set_option linter.unusedSimpArgs false

theorem own : ownKnob Try.prog.godebug = none := by kernel_rfl
theorem laidOut : laidOutB Try.prog = true := by kernel_rfl

/-- What the walk is told of a list of lists of bytes. -/
def IsRows (w : World) (a : Option Addr) (len cap : Nat) (A : Nat → Option Addr) (L C : Nat → Nat) (Z : Nat → List Int) : Prop :=
  (a = none ∧ len = 0 ∧ cap = 0) ∨
  ∃ x, a = some x ∧ len ≤ cap ∧ cap ≤ maxLen ∧ ∀ r, r < cap → w.cell? (x.add r) = some (.slice (A r) (L r) (C r)) ∧ L r ≤ C r ∧ C r ≤ maxLen ∧ (Z r).length = C r ∧ (∀ n ∈ Z r, (Lit.int .u8 n).wf = true) ∧ (A r = none → C r = 0) ∧
    ∀ a', A r = some a' → ∀ c, c < C r → w.cell? (a'.add c) = some (.int .u8 ((Z r).getD c 0))
theorem rows_rd {w : World} {a : Option Addr} {len cap : Nat} {A : Nat → Option Addr} {L C : Nat → Nat} {Z : Nat → List Int} (h : IsRows w a len cap A L C Z) (r : Nat) (hr : r < len) :
    ∃ x, a = some x ∧ w.cell? (x.add r) = some (.slice (A r) (L r) (C r)) ∧ L r ≤ 9223372036854775807 ∧ (L r ≤ 200 → Rd w .u8 (A r) (L r) (C r) ((Z r).take (L r))) := by
  rcases h with ⟨_, h, _⟩ | ⟨x, rfl, h1, h2, h3⟩
  · omega
  · obtain ⟨c1, c2, c3, c4, c5, c6, c7⟩ := h3 r (by omega)
    unfold maxLen at c3
    refine ⟨x, rfl, c1, by omega, fun hl => ⟨by rw [List.length_take]; omega, by omega, fun e => ⟨by have := c6 e; omega, c6 e⟩, fun hp => ?_⟩⟩
    cases hA : A r with
    | none => have := c6 hA; omega
    | some a' => exact ⟨a', rfl, fun j hj => by rw [c7 a' hA j (by omega)]; simp [List.getD, List.getElem?_take_of_lt hj]⟩
theorem rows_max {w : World} {a : Option Addr} {len cap : Nat} {A : Nat → Option Addr} {L C : Nat → Nat} {Z : Nat → List Int} (h : IsRows w a len cap A L C Z) : len ≤ 9223372036854775807 := by
  rcases h with ⟨_, h, _⟩ | ⟨x, rfl, h1, h2, h3⟩
  · omega
  · unfold maxLen at h2; omega

set_option maxHeartbeats 4000000 in
set_option maxRecDepth 100000 in
theorem walk (room : Int) (a : Option Addr) (len cap : Nat) (A : Nat → Option Addr) (L C : Nat → Nat) (Z : Nat → List Int) (w : World) (hroom : (Lit.int .i64 room).wf = true) (h : IsRows w a len cap A L C Z) :
    Calls Try.prog 3 #[.int .i64 room, .slice a len cap] w fun e w' => e = .returned (.bool true) ∧ Below w.heap.size w w' := by
  have hb : -9223372036854775808 ≤ room ∧ room ≤ 9223372036854775807 := by simpa [Lit.wf, IntKind.min, IntKind.max, IntKind.signed, IntKind.bits] using hroom
  obtain ⟨hb1, hb2⟩ := hb
  have hm := rows_max h
  have H := Kp.mk h
  clear h hroom
  by_cases h0 : room < 0
  · go_enter Try.func3, Try.ntmps3
    go_wp2_with (go_at_call 9; refine (alive_any w).mono ?_; rintro e wa ⟨rfl, hba⟩)
    go_ret
    exact ⟨rfl, hba⟩
  by_cases h5 : 500 < room
  · go_enter Try.func3, Try.ntmps3
    go_wp2_with (go_at_call 9; refine (alive_any w).mono ?_; rintro e wa ⟨rfl, hba⟩)
    go_ret
    exact ⟨rfl, hba⟩
  by_cases h2 : 20 < len
  · go_enter Try.func3, Try.ntmps3
    go_wp2_with (go_at_call 9; refine (alive_any w).mono ?_; rintro e wa ⟨rfl, hba⟩)
    go_ret
    exact ⟨rfl, hba⟩
  go_enter Try.func3, Try.ntmps3
  go_wp2_with fail
  refine (alive_any w).mono ?_
  rintro e wa ⟨rfl, hba⟩
  have Hba := Kp.mk hba
  have HWa := Kp.mk hba.size
  clear hba
  go_wp2_with fail
  refine (Dk.new wa room).mono ?_
  rintro e w1 ⟨g, rfl, hd1, hb1⟩
  have HD0 : Kp (∃ σ, Dk w1 wa.heap.size g σ ∧ Rm σ room 0 0) := ⟨⟨_, hd1, by simp only; omega, rfl, rfl, Nat.le_refl _⟩⟩
  have HB0 : Kp (Below w.heap.size w w1) := ⟨Hba.out.trans (hb1.mono HWa.out)⟩
  have HW0 : Kp (wa.heap.size ≤ w1.heap.size) := ⟨hb1.size⟩
  clear hd1 hb1
  go_wp2_with fail
  go_loopw [7, 8] (fun u i wr => ∃ (k : Nat) (n : Int), k ≤ len ∧ 0 ≤ n ∧ n ≤ room ∧ u = .int .i64 n ∧ i = .int .i64 k ∧ Kp (∃ σ, Dk wr wa.heap.size g σ ∧ Rm σ room n k) ∧ Kp (Below w.heap.size w wr) ∧ Kp (wa.heap.size ≤ wr.heap.size)) (fun _ i _ => len - (intOf i).toNat)
  case atStart => exact ⟨0, 0, by omega, by omega, by omega, rfl, rfl, HD0, HB0, HW0⟩
  case round =>
    clear HD0 HB0 HW0
    obtain ⟨k, n, hk, hn0, hn1, rfl, rfl, HD, HB, HW⟩ := hrel
    by_cases hlt : k < len
    · obtain ⟨x, rfl, hcx, hLm, hrd⟩ := rows_rd H.out k hlt
      have hcw := (HB.out.cell (p := x.add k) (World.block_lt_of_cell? w _ hcx)).trans hcx
      obtain ⟨Ak, hAk⟩ : ∃ Ak, A k = Ak := ⟨_, rfl⟩
      obtain ⟨Lk, hLk⟩ : ∃ Lk, L k = Lk := ⟨_, rfl⟩
      obtain ⟨Ck, hCk⟩ : ∃ Ck, C k = Ck := ⟨_, rfl⟩
      obtain ⟨b, hbz⟩ : ∃ b, (Z k).take (L k) = b := ⟨_, rfl⟩
      rw [hAk, hLk, hCk] at hcw hcx
      have Hcx := Kp.mk hcx
      rw [hbz, hAk, hLk, hCk] at hrd
      rw [hLk] at hLm
      have Hrd := Kp.mk hrd
      clear hcx hAk hLk hCk hbz hrd
      by_cases hL : 200 < Lk
      · go_wp2
        go_ret
        exact ⟨rfl, HB.out⟩
      · obtain ⟨r, hr⟩ : ∃ r, r = k % 3 := ⟨_, rfl⟩
        have hr3 : r < 3 := by omega
        have hrem : (k : Int).tmod 3 = (r : Int) := by rw [hr, Int.tmod_eq_emod_of_nonneg (by omega)]; omega
        have Habc := Kp.mk (abc_ok r hr3)
        have hW2 : IntKind.i64.wrap ((r : Int) + 1) = (r : Int) + 1 := IntWalk.i64_in _ (by omega)
        have Hlt : Kp (∀ ad, Ak = some ad → 0 < Lk → ad.block < wa.heap.size) := ⟨fun ad e hp => Nat.lt_of_lt_of_le ((Hrd.out (by omega)).lt ad e hp) HWa.out⟩
        obtain ⟨σ, hD, hRm⟩ := HD.out
        have HDk := Kp.mk hD
        have HRm := Kp.mk hRm
        have Hlen : Kp (b.length = Lk) := ⟨(Hrd.out (by omega)).len⟩
        have Hst := Kp.mk (rm_step hRm hD.uniq (k := k) (by omega) (by omega) hn1 Habc.out.1 (b := b) (by rw [Hlen.out]; omega))
        clear hr hD hRm HD
        by_cases hfit : n + (Lk : Int) ≤ room
        · have hfit0 := hfit
          obtain ⟨E1, E2⟩ := Hst.out.1 (by rw [Hlen.out]; exact hfit)
          try rw [Hlen.out] at E2
          have HE1 := Kp.mk E1
          have HE2 := Kp.mk E2
          clear E1 E2
          go_wp2_with fail
          go_region_with (go_at_call 11; refine (Dk.append (w := wr.drew) (HDk.out.below (below_drewN (Below.refl _ _) 1)) Habc.out.2 ⟨by rw [HRm.out.1]; omega, by rw [HRm.out.1]; omega⟩ HW.out (((Hrd.out (by omega)).below HB.out).below (below_drewN (Below.refl _ _) 1)) Hlt.out).mono ?_; rintro e w2 ⟨rfl, hd2, hbd2⟩; rw [HE1.out])
          all_goals
            have cu := IsDisk.used hd2
            rw [HE2.out.2.2.1] at cu
            have HD2 : Kp (∃ σ, Dk w2 wa.heap.size g σ ∧ Rm σ room (n + Lk) (k + 1)) := ⟨⟨_, hd2, HE2.out⟩⟩
            have HB2 : Kp (Below w.heap.size w w2) := ⟨HB.out.trans (((below_drewN (Below.refl wa.heap.size wr) 1).trans hbd2).mono HWa.out)⟩
            have HW2 : Kp (wa.heap.size ≤ w2.heap.size) := ⟨Nat.le_trans HW.out hbd2.size⟩
            have hcw2 := (HB2.out.cell (p := x.add k) (World.block_lt_of_cell? w _ Hcx.out)).trans Hcx.out
            clear hd2 hbd2 hcw
            go_wp2_with (first
              | (go_at_call 12; refine (num_any _ _).mono ?_; rintro e w' ⟨rfl, rfl⟩)
              | (go_at_call 13; refine (used_any _ _ _ cu).mono ?_; rintro e w' ⟨rfl, rfl⟩))
            go_roundw
            case rel => exact ⟨k + 1, (n + Lk), by omega, by omega, by omega, rfl, by go_num, HD2, HB2, HW2⟩
            case measure => simp [intOf]; omega
        · have hfit0 := hfit
          obtain ⟨E1, E2⟩ := Hst.out.2 (by rw [Hlen.out]; exact hfit)
          try rw [Hlen.out] at E2
          have HE1 := Kp.mk E1
          have HE2 := Kp.mk E2
          clear E1 E2
          go_wp2_with fail
          go_region_with (go_at_call 11; refine (Dk.append (w := wr.drew) (HDk.out.below (below_drewN (Below.refl _ _) 1)) Habc.out.2 ⟨by rw [HRm.out.1]; omega, by rw [HRm.out.1]; omega⟩ HW.out (((Hrd.out (by omega)).below HB.out).below (below_drewN (Below.refl _ _) 1)) Hlt.out).mono ?_; rintro e w2 ⟨rfl, hd2, hbd2⟩; rw [HE1.out])
          all_goals
            have cu := IsDisk.used hd2
            rw [HE2.out.2.2.1] at cu
            have HD2 : Kp (∃ σ, Dk w2 wa.heap.size g σ ∧ Rm σ room n (k + 1)) := ⟨⟨_, hd2, HE2.out⟩⟩
            have HB2 : Kp (Below w.heap.size w w2) := ⟨HB.out.trans (((below_drewN (Below.refl wa.heap.size wr) 1).trans hbd2).mono HWa.out)⟩
            have HW2 : Kp (wa.heap.size ≤ w2.heap.size) := ⟨Nat.le_trans HW.out hbd2.size⟩
            have hcw2 := (HB2.out.cell (p := x.add k) (World.block_lt_of_cell? w _ Hcx.out)).trans Hcx.out
            clear hd2 hbd2 hcw
            go_wp2_with (first
              | (go_at_call 12; refine (num_any _ _).mono ?_; rintro e w' ⟨rfl, rfl⟩)
              | (go_at_call 13; refine (used_any _ _ _ cu).mono ?_; rintro e w' ⟨rfl, rfl⟩))
            go_roundw
            case rel => exact ⟨k + 1, n, by omega, by omega, by omega, rfl, by go_num, HD2, HB2, HW2⟩
            case measure => simp [intOf]; omega
    · go_wp2
      go_ret
      exact ⟨rfl, HB.out⟩

/-! ### THE ROW's STEP: WRITTEN OUT: LEAVE IT -/
set_option maxRecDepth 100000 in
theorem lifted (os : Os) (started : os.Started) (H : Type) (enc : TypeId × Value → H) :
    ReturnsInHanded {} Try.checked os 3 .any (Rows.diskRoomSpec.pre6 enc Try.prog Try.f3 Rows.diskRoomRow.domain false) (Rows.diskRoomSpec.post enc Try.prog Try.f3 false true false false) := by
  refine returnsInHanded_of_change (C := Try.checked) own started (by kernel_rfl) Try.func3
    (ChangeSpec.witness6 (enc := enc) (C := Try.checked) false ⟨#[], #[.int .i64 0, .slice none 0 0], []⟩ 8 (by kernel_rfl) (by kernel_rfl) (by kernel_rfl) (by kernel_rfl)) ?_
  intro W base args ds gs before hval0 hW hcnd _
  have hval : ∀ (j : Nat) t v, Try.f3.params[j]? = some t → args[j]? = some v → Value.okWide Try.prog W .any base t v := hval0
  have hW' := hW
  obtain ⟨p, q, hA0, hV, rfl, hfz, hnd⟩ := hW
  have hA : DataW.TrodAll enc Try.prog W 0 (fun _ => true) true Try.f3.params.toList args.toList ds p := hA0
  rw [Try.params3] at hA hval
  obtain ⟨v0, vs0, d0, ds0, p0, q0, hargs, rfl, rfl, h0, r0⟩ := trodAll_cons hA
  obtain ⟨v1, vs1, d1, ds1, p1, q1, rfl, rfl, rfl, h1, r1⟩ := trodAll_cons r0
  obtain ⟨rfl, rfl, rfl⟩ := trodAll_nil r1
  obtain rfl : args = #[v0, v1] := by cases args; simp_all
  obtain ⟨rfl, rfl⟩ := trodVars_none hV
  obtain ⟨a0, rfl, rfl, rfl, w0⟩ := open_int Try.underlying3 (hval 0 3 v0 rfl rfl) h0
  obtain ⟨a1, len1, cap1, rfl⟩ := okWide_slice Try.underlying22 (hval 1 22 v1 rfl rfl)
  have k1 := h1
  have lt1 : ∀ x ∈ p1, x.block < W.heap.size := by obtain ⟨m, hm⟩ := k1; exact DataW.trod_lt m _ _ _ hm
  obtain ⟨A, L, C, Z, w1⟩ : ∃ A L C Z, IsRows W a1 len1 cap1 A L C Z := by
    obtain ⟨fuel, hf⟩ := h1
    rcases Go.Deep.open_int_rows Try.underlying22 Try.underlying26 Try.underlying5 (by kernel_rfl) (by kernel_rfl) hf with ⟨hcs, _⟩ | ⟨x, l, c, A, L, C, Z, hcs, _, hl, hm, _, hcell⟩
    · simp [Value.cells] at hcs
      obtain ⟨rfl, rfl, rfl⟩ := hcs
      exact ⟨fun _ => none, fun _ => 0, fun _ => 0, fun _ => [], .inl ⟨rfl, rfl, rfl⟩⟩
    · simp [Value.cells] at hcs
      obtain ⟨rfl, rfl, rfl⟩ := hcs
      exact ⟨A, L, C, Z, .inr ⟨_, rfl, hl, hm, fun r hr => by obtain ⟨q1, q2, q3, q4, q5, q6, q7⟩ := hcell r hr; exact ⟨q1, q2, q3, q4, q5, q6, fun a' e => (q7 a' e).2⟩⟩⟩
  clear hA0 hval0
  refine (walk a0 a1 len1 cap1 A L C Z W w0 w1).mono fun e W' ⟨he, bel⟩ => ?_
  subst he
  exact ⟨_, rfl, _, _, _, [], _, [], hW', trodAll_mk1 (shut_bool Try.underlying4 _), (trodAll_cons_mk (shut_int Try.underlying3 w0) (trodAll_cons_mk (Below.trod laidOut (by kernel_rfl) (of_decide_eq_true (by kernel_rfl)) k1 bel lt1) trodAll_mk0)), rfl, bel.frame _, fun h => by cases h⟩

theorem over : Rows.diskRoomRow.holds Try.pinned (OpenSpec.ofChange Rows.diskRoomSpec) :=
  OpenClaim.holds_of_wide 3 Try.f3 rfl rfl rfl rfl rfl rfl rfl ⟨rfl, rfl, rfl, rfl, rfl⟩ rfl rfl rfl rfl rfl (by kernel_rfl) Try.func3 (by kernel_rfl)
    (of_decide_eq_true (by kernel_rfl)) (by unfold Func.isWrapper; first | (rw [if_pos (by decide +kernel)]; kernel_rfl) | (rw [if_neg (by decide +kernel)]; exact ⟨rfl, rfl⟩))
    (fun os started H enc _ => lifted os started H enc)

/-- ████ THE STATEMENT ████ -/
theorem proved : Rows.DiskRoomSaid := over
#print axioms proved
end Go.Proofs.Ytgeklapphkgdkaa.diskRoom
