/- For every list of whole numbers and every list of bytes the law DiskFails answers true: just the calls whose number is not 0 fail, and such a call does nothing but count. No condition. -/
import Derived.Test.YtgeklapphkgdkaaRows
import Derived.Test.YtgeklapphkgdkaaDskM
import Derived.WalkKit
import Derived.ProofKit
import Derived.OpenShut
import Derived.ShutString
import Derived.ChangeOld
import Derived.Below
namespace Go.Proofs.Ytgeklapphkgdkaa.diskFails
open Go.ChangeShapes Go.WideShapes Go.ChangeAt Go.RowKit
open Go.ChangeMaps (open_string shut_string)
open Go.Proofs.Ytgeklapphkgdkaa.Dsk
set_option linter.unusedVariables false
set_option linter.unusedSimpArgs false

theorem own : ownKnob Try.prog.godebug = none := by kernel_rfl
theorem laidOut : laidOutB Try.prog = true := by kernel_rfl

/-- WHAT THE WALK IS TOLD OF A SLICE OF INTEGERS THAT CAME IN: it is nil; or it leads to a row of 'cap' cells, the numbers 'zs' (the first 'len' are its elements, the rest its spare room), each fitting its kind. -/
def IsRow (k : IntKind) (w : World) (a : Option Addr) (len cap : Nat) (zs : List Int) : Prop :=
  (a = none ∧ len = 0 ∧ cap = 0 ∧ zs = []) ∨
  ∃ x, a = some x ∧ len ≤ cap ∧ cap ≤ maxLen ∧ zs.length = cap ∧ (∀ i, i < zs.length → w.cell? (x.add i) = some (.int k (zs.getD i 0))) ∧ ∀ n ∈ zs, (Lit.int k n).wf = true

theorem isRow_rd {k : IntKind} {w : World} {a : Option Addr} {len cap : Nat} {zs : List Int} (h : IsRow k w a len cap zs) (hl : len ≤ 140737488355328) : Rd w k a len cap (zs.take len) := by
  rcases h with ⟨rfl, rfl, rfl, rfl⟩ | ⟨x, rfl, h1, h2, h3, h4, h5⟩
  · exact ⟨rfl, by omega, fun _ => ⟨rfl, rfl⟩, fun h => absurd h (by omega)⟩
  · exact ⟨by rw [List.length_take]; omega, hl, (fun e => by cases e), fun hp => ⟨x, rfl, fun j hj => by rw [h4 j (by omega)]; simp [List.getD, hj]⟩⟩
theorem isRow_max {k : IntKind} {w : World} {a : Option Addr} {len cap : Nat} {zs : List Int} (h : IsRow k w a len cap zs) : len ≤ 9223372036854775807 := by
  rcases h with ⟨rfl, rfl, rfl, rfl⟩ | ⟨x, rfl, h1, h2, h3, h4, h5⟩
  · omega
  · unfold maxLen at h2; omega

/-! ### STEP 1: THE WALK: the Go text returns true, AND WRITES NOTHING THAT WAS THERE: 'Below w.heap.size w w'' (Derived/Below.lean: '.refl', '.alloc', '.drew', '.setCell' at a new block, '.trans'). Open each 'IsRow' by 'rcases' AHEAD of 'go_enter'; part every test ahead of the walk. -/
set_option maxHeartbeats 4000000 in
set_option maxRecDepth 100000 in
theorem walk (a0 : Option Addr) (len0 cap0 : Nat) (z0 : List Int) (a1 : Option Addr) (len1 cap1 : Nat) (z1 : List Int) (w : World) (w0 : IsRow .i64 w a0 len0 cap0 z0) (w1 : IsRow .u8 w a1 len1 cap1 z1) :
    Calls Try.prog 4 #[.slice a0 len0 cap0, .slice a1 len1 cap1] w fun e w' => e = .returned (.bool true) ∧ Below w.heap.size w w' := by
  have hrd0 : len0 ≤ 30 → Rd w .i64 a0 len0 cap0 (z0.take len0) := fun hl => isRow_rd w0 (by omega)
  have hrd1 : len1 ≤ 20 → Rd w .u8 a1 len1 cap1 (z1.take len1) := fun hl => isRow_rd w1 (by omega)
  have hm0 := isRow_max w0
  have hm1 := isRow_max w1
  have H0 := Kp.mk hrd0
  have H1 := Kp.mk hrd1
  clear w0 w1 hrd0 hrd1
  by_cases h0 : len0 ≤ 30
  rotate_left
  · go_enter Try.func4, Try.ntmps4
    go_wp2_with (go_at_call 9; refine (alive_any w).mono ?_; rintro e wa ⟨rfl, hba⟩)
    go_ret
    exact ⟨rfl, hba⟩
  by_cases h1 : len1 ≤ 20
  rotate_left
  · go_enter Try.func4, Try.ntmps4
    go_wp2_with (go_at_call 9; refine (alive_any w).mono ?_; rintro e wa ⟨rfl, hba⟩)
    go_ret
    exact ⟨rfl, hba⟩
  obtain ⟨l, hl⟩ : ∃ l, l = z0.take len0 := ⟨_, rfl⟩
  obtain ⟨b, hb⟩ : ∃ b, b = z1.take len1 := ⟨_, rfl⟩
  rw [← hl] at H0
  rw [← hb] at H1
  replace H0 := Kp.mk (H0.out h0)
  replace H1 := Kp.mk (H1.out h1)
  clear hl hb
  go_enter Try.func4, Try.ntmps4
  go_wp2_with fail
  refine (alive_any w).mono ?_
  rintro e wa ⟨rfl, hba⟩
  have Hba := Kp.mk hba
  clear hba
  go_wp2_with fail
  refine (Dk.new wa 10000).mono ?_
  rintro e w1 ⟨g, rfl, hd1, hb1⟩
  have Hd1 := Kp.mk hd1
  have Hb1 := Kp.mk hb1
  clear hd1 hb1
  go_wp2_with fail
  refine (Dk.append Hd1.out (by decide) ⟨by decide, by decide⟩ Hb1.out.size (Rd.nil0 w1 .u8) (fun ad e => by cases e)).mono ?_
  rintro e w2 ⟨rfl, hd2, hb2⟩
  rw [stF_zero l b] at hd2 ⊢
  simp only at hd2 ⊢
  have HB2 : Kp (Below w.heap.size w w2) := ⟨(Hba.out.trans (Hb1.out.mono Hba.out.size)).trans (hb2.mono Hba.out.size)⟩
  have HW2 : Kp (wa.heap.size ≤ w2.heap.size) := ⟨Nat.le_trans Hb1.out.size hb2.size⟩
  have HWa : Kp (w.heap.size ≤ wa.heap.size) := ⟨Hba.out.size⟩
  have Hd2 := Kp.mk hd2
  clear hd2 hb2 Hd1 Hb1 Hba
  go_wp2_with (at_builtin; refine wpList_append_rd _ rfl (.const (.slice none 0 0)) (.tmp 29) 32 3 .i64 8 w2.heap.size rfl Try.underlying32 Try.infoInt (by decide) (.slice none 0 0) 0 len0 cap0 [] l a0 rfl rfl (World.ownsRow_nil _ _ _ _) (H0.out.below HB2.out) (by omega) (Nat.le_refl _) ?_; intro A' c' w3 hown3 hg3 hat3; simp only [Nat.zero_add, List.nil_append] at hown3 hat3 ⊢; have Hown3 := Kp.mk hown3; have Hg3 := Kp.mk hg3; clear hown3 hg3 hat3)
  have HB3 : Kp (Below w2.heap.size w2 w3) := ⟨(Below.refl _ _).grown Hg3.out (Nat.le_refl _) (fun k e => by simp [Value.ownBlock] at e)⟩
  have hlen : l.length = len0 := H0.out.len
  have hblen : b.length = len1 := H1.out.len
  have Hlen := Kp.mk hlen
  have Hblen := Kp.mk hblen
  clear hlen hblen
  refine (fail_any w3 _ _ _ _ A' len0 c' l (Hd2.out.below HB3.out) (Nat.le_trans HW2.out HB3.out.size) (own_rd Hown3.out (by omega)).1 (by omega)).mono ?_
  rintro e w4 ⟨rfl, hp4⟩
  have HD : Kp (Dk w4 wa.heap.size g (stF l b 0)) := ⟨Dk.next (fun k h => h.1) (Nat.le_trans HW2.out HB3.out.size) hp4⟩
  have HB4 : Kp (Below w.heap.size w w4) := ⟨(HB2.out.trans (HB3.out.mono (Nat.le_trans HWa.out HW2.out))).trans ((hp4.2.toBelow (fun k h => h.1) (Nat.le_trans HW2.out HB3.out.size)).mono HWa.out)⟩
  have HW4 : Kp (wa.heap.size ≤ w4.heap.size) := ⟨Nat.le_trans (Nat.le_trans HW2.out HB3.out.size) hp4.2.size⟩
  clear hp4 HB2 HW2 Hd2 HB3 Hg3 Hown3
  go_wp2_with fail
  go_loopw [7, 8, 9] (fun n f i wr => ∃ k : Nat, k ≤ len0 + 2 ∧ n = .int .i64 ((rep l b k).length : Nat) ∧ f = .int .i64 (cnt l k) ∧ i = .int .i64 k ∧ Kp (Dk wr wa.heap.size g (stF l b k)) ∧ Kp (Below w.heap.size w wr) ∧ Kp (wa.heap.size ≤ wr.heap.size)) (fun _ _ i _ => len0 + 2 - (intOf i).toNat)
  case atStart => exact ⟨0, by omega, rfl, rfl, rfl, HD, HB4, HW4⟩
  case round =>
    clear HD HB4 HW4
    obtain ⟨k, hk, rfl, rfl, rfl, HD, HB, HW⟩ := hrel
    by_cases hlt : k < len0 + 2
    · have Hst := Kp.mk (stF_step l b k (by omega) (by rw [Hblen.out]; exact h1))
      have hrk := rep_le l b k
      have hrk1 := rep_le l b (k + 1)
      have hck := cnt_le l k
      have hm1 : k * b.length ≤ 40 * 20 := Nat.mul_le_mul (by omega) (by rw [Hblen.out]; exact h1)
      have hm2 : (k + 1) * b.length ≤ 40 * 20 := Nat.mul_le_mul (by omega) (by rw [Hblen.out]; exact h1)
      have hr2 : (rep l b k).length ≤ 800 := by omega
      have hr3 : (rep l b (k + 1)).length ≤ 800 := by omega
      clear hrk hrk1 hm1 hm2
      go_wp2_with fail
      refine (Dk.append HD.out (by decide) ⟨by simp [stF], by simp [stF]⟩ HW.out (H1.out.below HB.out) (fun ad e hm => Nat.lt_of_lt_of_le (H1.out.lt ad e hm) HWa.out)).mono ?_
      rintro e w5 ⟨rfl, hd5, hb5⟩
      rw [Hst.out] at hd5 ⊢
      simp only at hd5 ⊢
      have cu := hd5.used
      have cf := hd5.failed
      simp only [stF, used, Int.add_zero] at cu cf
      have HD5 := Kp.mk hd5
      have HB5 : Kp (Below w.heap.size w w5) := ⟨HB.out.trans (hb5.mono HWa.out)⟩
      have HW5 : Kp (wa.heap.size ≤ w5.heap.size) := ⟨Nat.le_trans HW.out hb5.size⟩
      clear hd5 hb5
      have Hbound := hck
      by_cases hz : l.getD k 0 = 0
      · have er : ((rep l b (k + 1)).length : Int) = ((rep l b k).length : Int) + len1 := by
          rw [show rep l b (k + 1) = rep l b k ++ b by simp only [rep, if_pos hz], List.length_append, Hblen.out]; omega
        have ec : cnt l (k + 1) = cnt l k := by simp only [cnt, if_pos hz]
        rw [er] at cu
        rw [ec] at cf
        rw [if_pos hz]
        have Er := Kp.mk er
        have Ec := Kp.mk ec
        clear er ec
        by_cases hkl : k < len0
        · obtain ⟨ad, ha0, hcl⟩ := (H0.out.below HB5.out).cell (by omega)
          subst ha0
          have hc := hcl k hkl
          rw [hz] at hc
          have Hz := Kp.mk hz
          clear hcl hz
          go_wp2_with (first
            | (go_at_call 12; refine (num_any _ _).mono ?_; rintro e w' ⟨rfl, rfl⟩)
            | (go_at_call 13; refine (used_any _ _ _ cu).mono ?_; rintro e w' ⟨rfl, rfl⟩)
            | (go_at_call 15; refine (failed_any _ _ _ cf).mono ?_; rintro e w' ⟨rfl, rfl⟩))
          go_roundw
          case rel => exact ⟨k + 1, by omega, by rw [Er.out], by rw [Ec.out], by go_num, HD5, HB5, HW5⟩
          case measure => simp [intOf]; omega
        · have hkl' : ¬ ((k : Int) < len0) := by omega
          have Hz := Kp.mk hz
          clear hz
          go_wp2_with (first
            | (go_at_call 12; refine (num_any _ _).mono ?_; rintro e w' ⟨rfl, rfl⟩)
            | (go_at_call 13; refine (used_any _ _ _ cu).mono ?_; rintro e w' ⟨rfl, rfl⟩)
            | (go_at_call 15; refine (failed_any _ _ _ cf).mono ?_; rintro e w' ⟨rfl, rfl⟩))
          go_roundw
          case rel => exact ⟨k + 1, by omega, by rw [Er.out], by rw [Ec.out], by go_num, HD5, HB5, HW5⟩
          case measure => simp [intOf]; omega
      · have er : ((rep l b (k + 1)).length : Int) = ((rep l b k).length : Int) := by
          rw [show rep l b (k + 1) = rep l b k by simp only [rep, if_neg hz]]
        have ec : ((cnt l (k + 1) : Nat) : Int) = (cnt l k : Int) + 1 := by simp only [cnt, if_neg hz]; omega
        rw [er] at cu
        rw [ec] at cf
        rw [if_neg hz]
        have Er := Kp.mk er
        have Ec := Kp.mk ec
        clear er ec
        have hkl : k < len0 := by
          rcases Nat.lt_or_ge k len0 with h | h
          · exact h
          · exact absurd (by simp [List.getD, List.getElem?_eq_none (show l.length ≤ k by rw [Hlen.out]; exact h)]) hz
        obtain ⟨ad, ha0, hcl⟩ := (H0.out.below HB5.out).cell (by omega)
        subst ha0
        have hc := hcl k hkl
        obtain ⟨x, hx⟩ : ∃ x, l.getD k 0 = x := ⟨_, rfl⟩
        rw [hx] at hc hz
        have hzb : (x != 0) = true := by simpa using hz
        clear hcl hz hx
        go_wp2_with (first
          | (go_at_call 12; refine (num_any _ _).mono ?_; rintro e w' ⟨rfl, rfl⟩)
          | (go_at_call 13; refine (used_any _ _ _ cu).mono ?_; rintro e w' ⟨rfl, rfl⟩)
          | (go_at_call 15; refine (failed_any _ _ _ cf).mono ?_; rintro e w' ⟨rfl, rfl⟩))
        go_roundw
        case rel => exact ⟨k + 1, by omega, by rw [Er.out], by rw [Ec.out], by go_num, HD5, HB5, HW5⟩
        case measure => simp [intOf]; omega
    · have : k = len0 + 2 := by omega
      subst this
      go_wp2
      go_ret
      exact ⟨rfl, HB.out⟩

/-! ### THE ROW's STEP: WRITTEN OUT: LEAVE IT -/
set_option maxRecDepth 100000 in
theorem lifted (os : Os) (started : os.Started) (H : Type) (enc : TypeId × Value → H) :
    ReturnsInHanded {} Try.checked os 4 .any (Rows.diskFailsSpec.pre6 enc Try.prog Try.f4 Rows.diskFailsRow.domain false) (Rows.diskFailsSpec.post enc Try.prog Try.f4 false true false false) := by
  refine returnsInHanded_of_change (C := Try.checked) own started (by kernel_rfl) Try.func4
    (ChangeSpec.witness6 (enc := enc) (C := Try.checked) false ⟨#[], #[.slice none 0 0, .slice none 0 0], []⟩ 8 (by kernel_rfl) (by kernel_rfl) (by kernel_rfl) (by kernel_rfl)) ?_
  intro W base args ds gs before hval0 hW hcnd _
  have hval : ∀ (j : Nat) t v, Try.f4.params[j]? = some t → args[j]? = some v → Value.okWide Try.prog W .any base t v := hval0
  have hW' := hW
  obtain ⟨p, q, hA0, hV, rfl, hfz, hnd⟩ := hW
  have hA : DataW.TrodAll enc Try.prog W 0 (fun _ => true) true Try.f4.params.toList args.toList ds p := hA0
  rw [Try.params4] at hA hval
  obtain ⟨v0, vs0, d0, ds0, p0, q0, hargs, rfl, rfl, h0, r0⟩ := trodAll_cons hA
  obtain ⟨v1, vs1, d1, ds1, p1, q1, rfl, rfl, rfl, h1, r1⟩ := trodAll_cons r0
  obtain ⟨rfl, rfl, rfl⟩ := trodAll_nil r1
  obtain rfl : args = #[v0, v1] := by cases args; simp_all
  obtain ⟨rfl, rfl⟩ := trodVars_none hV
  obtain ⟨a0, len0, cap0, rfl⟩ := okWide_slice Try.underlying32 (hval 0 32 v0 rfl rfl)
  have k0 := h0
  have lt0 : ∀ x ∈ p0, x.block < W.heap.size := by obtain ⟨m, hm⟩ := k0; exact DataW.trod_lt m _ _ _ hm
  obtain ⟨z0, w0⟩ : ∃ zs, IsRow .i64 W a0 len0 cap0 zs := by
    obtain ⟨fuel, hf⟩ := h0
    rcases open_ints Try.underlying32 Try.underlying3 (by kernel_rfl) hf with ⟨hcs, _⟩ | ⟨x, l, c, zs, hcs, _, hl, hm, hz, _, hcell, hwz⟩
    · simp [Value.cells] at hcs
      obtain ⟨rfl, rfl, rfl⟩ := hcs
      exact ⟨[], .inl ⟨rfl, rfl, rfl, rfl⟩⟩
    · simp [Value.cells] at hcs
      obtain ⟨rfl, rfl, rfl⟩ := hcs
      exact ⟨zs, .inr ⟨_, rfl, hl, hm, by simpa using hz, hcell, hwz⟩⟩
  obtain ⟨a1, len1, cap1, rfl⟩ := okWide_slice Try.underlying26 (hval 1 26 v1 rfl rfl)
  have k1 := h1
  have lt1 : ∀ x ∈ p1, x.block < W.heap.size := by obtain ⟨m, hm⟩ := k1; exact DataW.trod_lt m _ _ _ hm
  obtain ⟨z1, w1⟩ : ∃ zs, IsRow .u8 W a1 len1 cap1 zs := by
    obtain ⟨fuel, hf⟩ := h1
    rcases open_ints Try.underlying26 Try.underlying5 (by kernel_rfl) hf with ⟨hcs, _⟩ | ⟨x, l, c, zs, hcs, _, hl, hm, hz, _, hcell, hwz⟩
    · simp [Value.cells] at hcs
      obtain ⟨rfl, rfl, rfl⟩ := hcs
      exact ⟨[], .inl ⟨rfl, rfl, rfl, rfl⟩⟩
    · simp [Value.cells] at hcs
      obtain ⟨rfl, rfl, rfl⟩ := hcs
      exact ⟨zs, .inr ⟨_, rfl, hl, hm, by simpa using hz, hcell, hwz⟩⟩
  clear hA0 hval0
  refine (walk a0 len0 cap0 z0 a1 len1 cap1 z1 W w0 w1).mono fun e W' ⟨he, bel⟩ => ?_
  subst he
  exact ⟨_, rfl, _, _, _, [], _, [], hW', trodAll_mk1 (shut_bool Try.underlying4 _), (trodAll_cons_mk (Below.trod laidOut (by kernel_rfl) (of_decide_eq_true (by kernel_rfl)) k0 bel lt0) (trodAll_cons_mk (Below.trod laidOut (by kernel_rfl) (of_decide_eq_true (by kernel_rfl)) k1 bel lt1) trodAll_mk0)), rfl, bel.frame _, fun h => by cases h⟩

theorem over : Rows.diskFailsRow.holds Try.pinned (OpenSpec.ofChange Rows.diskFailsSpec) :=
  OpenClaim.holds_of_wide 4 Try.f4 rfl rfl rfl rfl rfl rfl rfl ⟨rfl, rfl, rfl, rfl, rfl⟩ rfl rfl rfl rfl rfl (by kernel_rfl) Try.func4 (by kernel_rfl)
    (of_decide_eq_true (by kernel_rfl)) (by unfold Func.isWrapper; first | (rw [if_pos (by decide +kernel)]; kernel_rfl) | (rw [if_neg (by decide +kernel)]; exact ⟨rfl, rfl⟩))
    (fun os started H enc _ => lifted os started H enc)

/-- ████ THE STATEMENT ████ -/
theorem proved : Rows.DiskFailsSaid := over
#print axioms proved
end Go.Proofs.Ytgeklapphkgdkaa.diskFails
