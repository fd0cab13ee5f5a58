/- For every two strings the law DiskNames answers true. No condition. -/
import Derived.Test.YtgeklapphkgdkaaRows
import Derived.Test.YtgeklapphkgdkaaDskY
import Derived.WalkKit
import Derived.ProofKit
import Derived.OpenShut
import Derived.ShutString
import Derived.ChangeOld
import Derived.Below
namespace Go.Proofs.Ytgeklapphkgdkaa.diskNames
open Go.ChangeShapes Go.WideShapes Go.ChangeAt Go.RowKit
open Go.ChangeMaps (open_string shut_string)
open Go.Proofs.Ytgeklapphkgdkaa.Dsk
set_option linter.unusedSimpArgs false
set_option linter.unusedVariables false      -- a walk need not use every 'w<i>' (that an integer argument fits its kind)

theorem own : ownKnob Try.prog.godebug = none := by kernel_rfl

/-! ### STEP 1: THE WALK: the Go text returns true. 'Grown w w'': the world has at most new blocks (Derived/RowKit3.lean). Part the cases AHEAD of 'go_enter' where a test parts the walk; take each callee by a contract of your own. -/
set_option maxHeartbeats 8000000 in
set_option maxRecDepth 100000 in
theorem walk (a0 : ByteArray) (a1 : ByteArray) (w0 : a0.size ≤ maxLen) (w1 : a1.size ≤ maxLen) (w : World) :
    Calls Try.prog 7 #[.string a0, .string a1] w fun e w' => e = .returned (.bool true) ∧ Below w.heap.size w w' := by
  have Hs0 := Kp.mk w0
  have Hs1 := Kp.mk w1
  have kc := fun (w : World) (C : Array Value) (n c : Nat) => Lib.run_convert_bytes_const (P := Try.prog) w 26 5 C n c Try.underlying26 Try.underlying5
  clear w0 w1
  by_cases h0 : a0.size ≤ 60
  rotate_left
  · go_enter Try.func7, Try.ntmps7
    go_wp2_with (go_at_call 9; refine (alive_any w).mono ?_; rintro e wa ⟨rfl, hba⟩)
    go_ret
    exact ⟨rfl, hba⟩
  by_cases h1 : a1.size ≤ 60
  rotate_left
  · go_enter Try.func7, Try.ntmps7
    go_wp2_with (go_at_call 9; refine (alive_any w).mono ?_; rintro e wa ⟨rfl, hba⟩)
    go_ret
    exact ⟨rfl, hba⟩
  by_cases hn : nameOk a0 = true
  rotate_left
  · have hn0 : nameOk a0 = false := by simpa using hn
    have Hn0 := Kp.mk hn0
    clear hn0 hn
    go_enter Try.func7, Try.ntmps7
    go_wp2_with fail
    refine (alive_any w).mono ?_
    rintro e wa ⟨rfl, hba⟩
    have Hba := Kp.mk hba
    clear hba
    go_wp2_with fail
    refine (Dk.new wa 1000).mono ?_
    rintro e w1 ⟨g, rfl, hd1, hb1⟩
    have HA := Kp.mk Hba.out.size
    have Hd1 := Kp.mk hd1
    have Hb1 := Kp.mk hb1
    clear hd1 hb1
    go_wp2_with fail
    refine (named_any a0 (by omega) w1).mono ?_
    rintro e w2 ⟨rfl, hb2⟩
    rw [Hn0.out]
    have Hd2 := Kp.mk (Hd1.out.below hb2)
    have Hb2 := Kp.mk (Hb1.out.trans (hb2.mono Hb1.out.size))
    clear hb2 Hd1 Hb1
    have Hrd : Kp (Rd (w2.alloc (.cells #[.int .u8 120] 5 (1, 2))) .u8 (some ⟨w2.heap.size, 0, none⟩) 1 1 [120]) := ⟨⟨rfl, by omega, (fun e => by cases e), fun _ => ⟨_, rfl, fun j hj => by
      rw [Addr.add_lit, cell_of_row _ _ _ _ _ _ (heap_alloc_new w2 _), Nat.zero_add]
      match j, hj with
      | 0, _ => rfl⟩⟩⟩
    go_wp2_with fail
    refine (Dk.append2 Hd2.out (by omega) ⟨by decide, by decide⟩ Hb2.out.size Hrd.out).mono ?_
    rintro e w3 ⟨rfl, hd3, hb3⟩
    rw [append_bad (by rfl) Hn0.out] at hd3 ⊢
    simp only at hd3 ⊢
    have Hd3 := Kp.mk hd3
    have Hb3 := Kp.mk (Hb2.out.trans hb3)
    clear hd3 hb3 Hd2 Hb2 Hrd
    go_wp2_with fail
    refine (Dk.sync Hd3.out (by omega) Hb3.out.size).mono ?_
    rintro e w4 ⟨rfl, hd4, hb4⟩
    rw [sync_bad (by rfl) Hn0.out] at hd4 ⊢
    simp only at hd4 ⊢
    have Hd4 := Kp.mk hd4
    have Hb4 := Kp.mk (Hb3.out.trans hb4)
    clear hd4 hb4 Hd3 Hb3
    go_wp2_with fail
    refine (Dk.size Hd4.out (by omega) Hb4.out.size).mono ?_
    rintro e w5 ⟨rfl, hd5, hb5⟩
    rw [size_bad (by rfl) Hn0.out] at hd5 ⊢
    simp only at hd5 ⊢
    have Hd5 := Kp.mk hd5
    have Hb5 := Kp.mk (Hb4.out.trans hb5)
    clear hd5 hb5 Hd4 Hb4
    go_wp2_with (go_at_call 12; refine (num_any _ _).mono ?_; rintro e w' ⟨rfl, rfl⟩)
    refine (Dk.rename Hd5.out (by omega) (by omega) Hb5.out.size).mono ?_
    rintro e w6 ⟨rfl, hd6, hb6⟩
    rw [rename_bad (by rfl) (by rw [Hn0.out]; rfl)] at hd6 ⊢
    simp only at hd6 ⊢
    have Hd6 := Kp.mk hd6
    have Hb6 := Kp.mk (Hb5.out.trans hb6)
    clear hd6 hb6 Hd5 Hb5
    go_wp2_with (go_at_call 12; refine (num_any _ _).mono ?_; rintro e w' ⟨rfl, rfl⟩)
    go_ret
    exact ⟨rfl, Hba.out.trans (Hb6.out.mono HA.out)⟩
  have Hn0 := Kp.mk hn
  clear hn
  by_cases hn : nameOk a1 = true
  rotate_left
  · have hn0 : nameOk a1 = false := by simpa using hn
    have Hn1 := Kp.mk hn0
    clear hn0 hn
    go_enter Try.func7, Try.ntmps7
    go_wp2_with fail
    refine (alive_any w).mono ?_
    rintro e wa ⟨rfl, hba⟩
    have Hba := Kp.mk hba
    clear hba
    go_wp2_with fail
    refine (Dk.new wa 1000).mono ?_
    rintro e w1 ⟨g, rfl, hd1, hb1⟩
    have HA := Kp.mk Hba.out.size
    have Hd1 := Kp.mk hd1
    have Hb1 := Kp.mk hb1
    clear hd1 hb1
    go_wp2_with fail
    refine (named_any a0 (by omega) w1).mono ?_
    rintro e w2 ⟨rfl, hb2⟩
    rw [Hn0.out]
    have Hd2 := Kp.mk (Hd1.out.below hb2)
    have Hb2 := Kp.mk (Hb1.out.trans (hb2.mono Hb1.out.size))
    clear hb2 Hd1 Hb1
    have Hrd : Kp (Rd (w2.alloc (.cells #[.int .u8 120] 5 (1, 2))) .u8 (some ⟨w2.heap.size, 0, none⟩) 1 1 [120]) := ⟨⟨rfl, by omega, (fun e => by cases e), fun _ => ⟨_, rfl, fun j hj => by
      rw [Addr.add_lit, cell_of_row _ _ _ _ _ _ (heap_alloc_new w2 _), Nat.zero_add]
      match j, hj with
      | 0, _ => rfl⟩⟩⟩
    go_wp2_with fail
    refine (Dk.append2 Hd2.out (by omega) ⟨by decide, by decide⟩ Hb2.out.size Hrd.out).mono ?_
    rintro e w3 ⟨rfl, hd3, hb3⟩
    rw [nm1 Hn0.out] at hd3 ⊢
    simp only at hd3 ⊢
    have Hd3 := Kp.mk hd3
    have Hb3 := Kp.mk (Hb2.out.trans hb3)
    clear hd3 hb3 Hd2 Hb2 Hrd
    go_wp2_with fail
    refine (Dk.sync Hd3.out (by omega) Hb3.out.size).mono ?_
    rintro e w4 ⟨rfl, hd4, hb4⟩
    rw [nm2 Hn0.out] at hd4 ⊢
    simp only at hd4 ⊢
    have Hd4 := Kp.mk hd4
    have Hb4 := Kp.mk (Hb3.out.trans hb4)
    clear hd4 hb4 Hd3 Hb3
    go_wp2_with fail
    refine (Dk.size Hd4.out (by omega) Hb4.out.size).mono ?_
    rintro e w5 ⟨rfl, hd5, hb5⟩
    rw [nm3 Hn0.out] at hd5 ⊢
    simp only at hd5 ⊢
    have Hd5 := Kp.mk hd5
    have Hb5 := Kp.mk (Hb4.out.trans hb5)
    clear hd5 hb5 Hd4 Hb4
    go_wp2_with (go_at_call 12; refine (num_any _ _).mono ?_; rintro e w' ⟨rfl, rfl⟩)
    refine (Dk.rename Hd5.out (by omega) (by omega) Hb5.out.size).mono ?_
    rintro e w6 ⟨rfl, hd6, hb6⟩
    rw [rename_bad (by rfl) (by rw [Hn0.out, Hn1.out]; rfl)] at hd6 ⊢
    simp only at hd6 ⊢
    have Hd6 := Kp.mk hd6
    have Hb6 := Kp.mk (Hb5.out.trans hb6)
    clear hd6 hb6 Hd5 Hb5
    go_wp2_with fail
    refine (named_any a1 (by omega) w6).mono ?_
    rintro e w7 ⟨rfl, hb7⟩
    rw [Hn1.out]
    have Hb7 := Kp.mk (Hb6.out.trans (hb7.mono Hb6.out.size))
    clear hb7 Hb6
    go_wp2_with (go_at_call 12; refine (num_any _ _).mono ?_; rintro e w' ⟨rfl, rfl⟩)
    go_ret
    exact ⟨rfl, Hba.out.trans (Hb7.out.mono HA.out)⟩
  have Hn1 := Kp.mk hn
  clear hn
  go_enter Try.func7, Try.ntmps7
  go_wp2_with fail
  refine (alive_any w).mono ?_
  rintro e wa ⟨rfl, hba⟩
  have Hba := Kp.mk hba
  clear hba
  go_wp2_with fail
  refine (Dk.new wa 1000).mono ?_
  rintro e w1 ⟨g, rfl, hd1, hb1⟩
  have HA := Kp.mk Hba.out.size
  have Hd1 := Kp.mk hd1
  have Hb1 := Kp.mk hb1
  clear hd1 hb1
  go_wp2_with fail
  refine (named_any a0 (by omega) w1).mono ?_
  rintro e w2 ⟨rfl, hb2⟩
  rw [Hn0.out]
  have Hd2 := Kp.mk (Hd1.out.below hb2)
  have Hb2 := Kp.mk (Hb1.out.trans (hb2.mono Hb1.out.size))
  clear hb2 Hd1 Hb1
  have Hrd : Kp (Rd (w2.alloc (.cells #[.int .u8 120] 5 (1, 2))) .u8 (some ⟨w2.heap.size, 0, none⟩) 1 1 [120]) := ⟨⟨rfl, by omega, (fun e => by cases e), fun _ => ⟨_, rfl, fun j hj => by
    rw [Addr.add_lit, cell_of_row _ _ _ _ _ _ (heap_alloc_new w2 _), Nat.zero_add]
    match j, hj with
    | 0, _ => rfl⟩⟩⟩
  go_wp2_with fail
  refine (Dk.append2 Hd2.out (by omega) ⟨by decide, by decide⟩ Hb2.out.size Hrd.out).mono ?_
  rintro e w3 ⟨rfl, hd3, hb3⟩
  rw [nm1 Hn0.out] at hd3 ⊢
  simp only at hd3 ⊢
  have Hd3 := Kp.mk hd3
  have Hb3 := Kp.mk (Hb2.out.trans hb3)
  clear hd3 hb3 Hd2 Hb2 Hrd
  go_wp2_with fail
  refine (Dk.sync Hd3.out (by omega) Hb3.out.size).mono ?_
  rintro e w4 ⟨rfl, hd4, hb4⟩
  rw [nm2 Hn0.out] at hd4 ⊢
  simp only at hd4 ⊢
  have Hd4 := Kp.mk hd4
  have Hb4 := Kp.mk (Hb3.out.trans hb4)
  clear hd4 hb4 Hd3 Hb3
  go_wp2_with fail
  refine (Dk.size Hd4.out (by omega) Hb4.out.size).mono ?_
  rintro e w5 ⟨rfl, hd5, hb5⟩
  rw [nm3 Hn0.out] at hd5 ⊢
  simp only at hd5 ⊢
  have Hd5 := Kp.mk hd5
  have Hb5 := Kp.mk (Hb4.out.trans hb5)
  clear hd5 hb5 Hd4 Hb4
  go_wp2_with (go_at_call 12; refine (num_any _ _).mono ?_; rintro e w' ⟨rfl, rfl⟩)
  refine (Dk.rename Hd5.out (by omega) (by omega) Hb5.out.size).mono ?_
  rintro e w6 ⟨rfl, hd6, hb6⟩
  rw [nm4 Hn0.out Hn1.out] at hd6 ⊢
  simp only at hd6 ⊢
  have Hd6 := Kp.mk hd6
  have Hb6 := Kp.mk (Hb5.out.trans hb6)
  clear hd6 hb6 Hd5 Hb5
  go_wp2_with fail
  refine (named_any a1 (by omega) w6).mono ?_
  rintro e w7 ⟨rfl, hb7⟩
  rw [Hn1.out]
  have Hd7 := Kp.mk (Hd6.out.below hb7)
  have Hb7 := Kp.mk (Hb6.out.trans (hb7.mono Hb6.out.size))
  clear hb7 Hb6 Hd6
  go_wp2_with fail
  refine (list_one Hd7.out rfl).mono ?_
  rintro e w8 ⟨ad, c, rfl, hc8, hb8⟩
  have cu := IsDisk.used (Hd7.out.below hb8)
  simp only [used, Int.add_zero] at cu
  have HB := Kp.mk (Hb7.out.trans (hb8.mono Hb7.out.size))
  have hc0 : w8.cell? ⟨ad, 0, none⟩ = some (.string a1) := hc8
  clear hc8 hb8 Hd7 Hb7
  go_wp2_with (first | (go_at_call 12; refine (num_any _ _).mono ?_; rintro e w' ⟨rfl, rfl⟩) | (go_at_call 13; refine (used_any _ _ _ cu).mono ?_; rintro e w' ⟨rfl, rfl⟩))
  go_ret
  exact ⟨rfl, Hba.out.trans (HB.out.mono HA.out)⟩

/-! ### THE ROW's STEP: WRITTEN OUT: LEAVE IT -/
set_option maxRecDepth 100000 in
theorem lifted (os : Os) (started : os.Started) (H : Type) (enc : TypeId × Value → H) :
    ReturnsInHanded {} Try.checked os 7 .any (Rows.diskNamesSpec.pre6 enc Try.prog Try.f7 Rows.diskNamesRow.domain false) (Rows.diskNamesSpec.post enc Try.prog Try.f7 false true false false) := by
  refine returnsInHanded_of_change (C := Try.checked) own started (by kernel_rfl) Try.func7
    (ChangeSpec.witness6 (enc := enc) (C := Try.checked) false ⟨#[], #[.string ByteArray.empty, .string ByteArray.empty], []⟩ 8 (by kernel_rfl) (by kernel_rfl) (by kernel_rfl) (by kernel_rfl)) ?_
  intro W base args ds gs before hval0 hW hcnd _
  have hval : ∀ (j : Nat) t v, Try.f7.params[j]? = some t → args[j]? = some v → Value.okWide Try.prog W .any base t v := hval0
  have hW' := hW
  obtain ⟨p, q, hA0, hV, rfl, hfz, hnd⟩ := hW
  have hA : DataW.TrodAll enc Try.prog W 0 (fun _ => true) true Try.f7.params.toList args.toList ds p := hA0
  rw [Try.params7] at hA hval
  obtain ⟨v0, vs0, d0, ds0, p0, q0, hargs, rfl, rfl, h0, r0⟩ := trodAll_cons hA
  obtain ⟨v1, vs1, d1, ds1, p1, q1, rfl, rfl, rfl, h1, r1⟩ := trodAll_cons r0
  obtain ⟨rfl, rfl, rfl⟩ := trodAll_nil r1
  obtain rfl : args = #[v0, v1] := by cases args; simp_all
  obtain ⟨rfl, rfl⟩ := trodVars_none hV
  obtain ⟨a0, rfl, rfl, rfl, w0⟩ := open_string Try.underlying9 (hval 0 9 v0 rfl rfl) h0
  obtain ⟨a1, rfl, rfl, rfl, w1⟩ := open_string Try.underlying9 (hval 1 9 v1 rfl rfl) h1
  clear hA0 hval0
  refine (walk a0 a1 w0 w1 W).mono fun e W' ⟨he, bel⟩ => ?_
  subst he
  exact ⟨_, rfl, _, _, _, [], _, [], hW', trodAll_mk1 (shut_bool Try.underlying4 _), (trodAll_cons_mk (shut_string Try.underlying9 w0) (trodAll_cons_mk (shut_string Try.underlying9 w1) trodAll_mk0)), rfl, bel.frame _, fun h => by cases h⟩

theorem over : Rows.diskNamesRow.holds Try.pinned (OpenSpec.ofChange Rows.diskNamesSpec) :=
  OpenClaim.holds_of_wide 7 Try.f7 rfl rfl rfl rfl rfl rfl rfl ⟨rfl, rfl, rfl, rfl, rfl⟩ rfl rfl rfl rfl rfl (by kernel_rfl) Try.func7 (by kernel_rfl)
    (of_decide_eq_true (by kernel_rfl)) (by unfold Func.isWrapper; first | (rw [if_pos (by decide +kernel)]; kernel_rfl) | (rw [if_neg (by decide +kernel)]; exact ⟨rfl, rfl⟩))
    (fun os started H enc _ => lifted os started H enc)

/-- ████ THE STATEMENT ████ -/
theorem proved : Rows.DiskNamesSaid :=
  over
#print axioms proved
end Go.Proofs.Ytgeklapphkgdkaa.diskNames
