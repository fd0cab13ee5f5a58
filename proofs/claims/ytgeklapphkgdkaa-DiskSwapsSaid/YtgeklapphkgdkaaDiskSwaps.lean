/- For every three lists of bytes and every whole number the law DiskSwaps answers true: a file renamed to another file's name is that file. No condition. -/
import Derived.Test.YtgeklapphkgdkaaRows
import Derived.Test.YtgeklapphkgdkaaDskU
import Derived.WalkKit
import Derived.ProofKit
import Derived.OpenShut
import Derived.ShutString
import Derived.ChangeOld
import Derived.Below
namespace Go.Proofs.Ytgeklapphkgdkaa.diskSwaps
open Go.ChangeShapes Go.WideShapes Go.ChangeAt Go.RowKit
open Go.ChangeMaps (open_string shut_string)
open Go.Proofs.Ytgeklapphkgdkaa.Dsk
set_option linter.unusedVariables false
set_option linter.unusedSimpArgs false

theorem own : ownKnob Try.prog.godebug = none := by kernel_rfl
theorem laidOut : laidOutB Try.prog = true := by kernel_rfl

/-- WHAT THE WALK IS TOLD OF A SLICE OF INTEGERS THAT CAME IN: it is nil; or it leads to a row of 'cap' cells, the numbers 'zs' (the first 'len' are its elements, the rest its spare room), each fitting its kind. -/
def IsRow (k : IntKind) (w : World) (a : Option Addr) (len cap : Nat) (zs : List Int) : Prop :=
  (a = none ∧ len = 0 ∧ cap = 0 ∧ zs = []) ∨
  ∃ x, a = some x ∧ len ≤ cap ∧ cap ≤ maxLen ∧ zs.length = cap ∧ (∀ i, i < zs.length → w.cell? (x.add i) = some (.int k (zs.getD i 0))) ∧ ∀ n ∈ zs, (Lit.int k n).wf = true

theorem isRow_rd {k : IntKind} {w : World} {a : Option Addr} {len cap : Nat} {zs : List Int} (h : IsRow k w a len cap zs) (hl : len ≤ 140737488355328) : Rd w k a len cap (zs.take len) := by
  rcases h with ⟨rfl, rfl, rfl, rfl⟩ | ⟨x, rfl, h1, h2, h3, h4, h5⟩
  · exact ⟨rfl, by omega, fun _ => ⟨rfl, rfl⟩, fun h => absurd h (by omega)⟩
  · exact ⟨by rw [List.length_take]; omega, hl, (fun e => by cases e), fun hp => ⟨x, rfl, fun j hj => by rw [h4 j (by omega)]; simp [List.getD, hj]⟩⟩
theorem isRow_max {k : IntKind} {w : World} {a : Option Addr} {len cap : Nat} {zs : List Int} (h : IsRow k w a len cap zs) : len ≤ 9223372036854775807 ∧ len ≤ cap := by
  rcases h with ⟨rfl, rfl, rfl, rfl⟩ | ⟨x, rfl, h1, h2, h3, h4, h5⟩
  · omega
  · unfold maxLen at h2; omega

/-! ### STEP 1: THE WALK: the Go text returns true, AND WRITES NOTHING THAT WAS THERE: 'Below w.heap.size w w'' (Derived/Below.lean: '.refl', '.alloc', '.drew', '.setCell' at a new block, '.trans'). Open each 'IsRow' by 'rcases' AHEAD of 'go_enter'; part every test ahead of the walk. -/
set_option maxHeartbeats 8000000 in
set_option maxRecDepth 100000 in
theorem walk (a0 : Option Addr) (len0 cap0 : Nat) (z0 : List Int) (a1 : Option Addr) (len1 cap1 : Nat) (z1 : List Int) (a2 : Option Addr) (len2 cap2 : Nat) (z2 : List Int) (a3 : Int) (w : World) (w0 : IsRow .u8 w a0 len0 cap0 z0) (w1 : IsRow .u8 w a1 len1 cap1 z1) (w2 : IsRow .u8 w a2 len2 cap2 z2) (w3 : (Lit.int .i64 a3).wf = true) :
    Calls Try.prog 6 #[.slice a0 len0 cap0, .slice a1 len1 cap1, .slice a2 len2 cap2, .int .i64 a3] w fun e w' => e = .returned (.bool true) ∧ Below w.heap.size w w' := by
  have hrd0 : len0 ≤ 100 → Rd w .u8 a0 len0 cap0 (z0.take len0) := fun hl => isRow_rd w0 (by omega)
  have hrd1 : len1 ≤ 100 → Rd w .u8 a1 len1 cap1 (z1.take len1) := fun hl => isRow_rd w1 (by omega)
  have hrd2 : len2 ≤ 100 → Rd w .u8 a2 len2 cap2 (z2.take len2) := fun hl => isRow_rd w2 (by omega)
  obtain ⟨hm0, hc0⟩ := isRow_max w0
  obtain ⟨hm1, hc1⟩ := isRow_max w1
  obtain ⟨hm2, hc2⟩ := isRow_max w2
  have hkp : -9223372036854775808 ≤ a3 ∧ a3 ≤ 9223372036854775807 := by simpa [Lit.wf, IntKind.min, IntKind.max, IntKind.signed, IntKind.bits] using w3
  obtain ⟨hkp1, hkp2⟩ := hkp
  have H0 := Kp.mk hrd0
  have H1 := Kp.mk hrd1
  have H2 := Kp.mk hrd2
  clear w0 w1 w2 w3 hrd0 hrd1 hrd2
  by_cases h0 : len0 ≤ 100
  rotate_left
  · go_enter Try.func6, Try.ntmps6
    go_wp2_with (go_at_call 9; refine (alive_any w).mono ?_; rintro e wa ⟨rfl, hba⟩)
    go_ret
    exact ⟨rfl, hba⟩
  by_cases h1 : len1 ≤ 100
  rotate_left
  · go_enter Try.func6, Try.ntmps6
    go_wp2_with (go_at_call 9; refine (alive_any w).mono ?_; rintro e wa ⟨rfl, hba⟩)
    go_ret
    exact ⟨rfl, hba⟩
  by_cases h2 : len2 ≤ 100
  rotate_left
  · go_enter Try.func6, Try.ntmps6
    go_wp2_with (go_at_call 9; refine (alive_any w).mono ?_; rintro e wa ⟨rfl, hba⟩)
    go_ret
    exact ⟨rfl, hba⟩
  obtain ⟨a, ha⟩ : ∃ a, a = z0.take len0 := ⟨_, rfl⟩
  obtain ⟨b, hb⟩ : ∃ b, b = z1.take len1 := ⟨_, rfl⟩
  obtain ⟨c, hc⟩ : ∃ c, c = z2.take len2 := ⟨_, rfl⟩
  rw [← ha] at H0
  rw [← hb] at H1
  rw [← hc] at H2
  replace H0 := Kp.mk (H0.out h0)
  replace H1 := Kp.mk (H1.out h1)
  replace H2 := Kp.mk (H2.out h2)
  clear ha hb hc
  have La := Kp.mk (show a.length ≤ 100 by have := H0.out.len; omega)
  have Lb := Kp.mk (show b.length ≤ 100 by have := H1.out.len; omega)
  have Lc := Kp.mk (show c.length ≤ 100 by have := H2.out.len; omega)
  go_enter Try.func6, Try.ntmps6
  go_wp2_with fail
  refine (alive_any w).mono ?_
  rintro e wa ⟨rfl, hba⟩
  have Hba := Kp.mk hba
  clear hba
  go_wp2_with fail
  refine (Dk.new wa 10000).mono ?_
  rintro e w1 ⟨g, rfl, hd1, hb1⟩
  have Hd1 := Kp.mk hd1
  have Hb1 := Kp.mk hb1
  have HA := Kp.mk Hba.out.size
  clear hd1 hb1
  go_wp2_with fail
  refine (Dk.append Hd1.out (by decide) ⟨by decide, by decide⟩ Hb1.out.size (H0.out.below (Hba.out.trans (Hb1.out.mono HA.out))) (fun ad e hm => Nat.lt_of_lt_of_le (H0.out.lt ad e hm) HA.out)).mono ?_
  rintro e w2 ⟨rfl, hd2, hb2⟩
  rw [sw1 a La.out] at hd2 ⊢
  simp only at hd2 ⊢
  have Hd2 := Kp.mk hd2
  have Hb2 := Kp.mk (Hb1.out.trans hb2)
  clear hd2 hb2 Hd1 Hb1
  go_wp2_with fail
  refine (Dk.sync Hd2.out (by decide) Hb2.out.size).mono ?_
  rintro e w3 ⟨rfl, hd3, hb3⟩
  rw [sw2 a] at hd3 ⊢
  simp only at hd3 ⊢
  have Hd3 := Kp.mk hd3
  have Hb3 := Kp.mk (Hb2.out.trans hb3)
  clear hd3 hb3 Hd2 Hb2
  go_wp2_with fail
  refine (Dk.append Hd3.out (by decide) ⟨by simp, by simp⟩ Hb3.out.size (H1.out.below (Hba.out.trans (Hb3.out.mono HA.out))) (fun ad e hm => Nat.lt_of_lt_of_le (H1.out.lt ad e hm) HA.out)).mono ?_
  rintro e w4 ⟨rfl, hd4, hb4⟩
  rw [sw3 a b La.out Lb.out] at hd4 ⊢
  simp only at hd4 ⊢
  have Hd4 := Kp.mk hd4
  have Hb4 := Kp.mk (Hb3.out.trans hb4)
  clear hd4 hb4 Hd3 Hb3
  go_wp2_with fail
  refine (Dk.sync Hd4.out (by decide) Hb4.out.size).mono ?_
  rintro e w5 ⟨rfl, hd5, hb5⟩
  rw [sw4 a b] at hd5 ⊢
  simp only at hd5 ⊢
  have Hd5 := Kp.mk hd5
  have Hb5 := Kp.mk (Hb4.out.trans hb5)
  clear hd5 hb5 Hd4 Hb4
  go_wp2_with fail
  refine (Dk.append Hd5.out (by decide) ⟨by simp, by simp⟩ Hb5.out.size (H2.out.below (Hba.out.trans (Hb5.out.mono HA.out))) (fun ad e hm => Nat.lt_of_lt_of_le (H2.out.lt ad e hm) HA.out)).mono ?_
  rintro e w6 ⟨rfl, hd6, hb6⟩
  rw [sw5 a b c La.out Lb.out Lc.out] at hd6 ⊢
  simp only at hd6 ⊢
  have Hd6 := Kp.mk hd6
  have Hb6 := Kp.mk (Hb5.out.trans hb6)
  clear hd6 hb6 Hd5 Hb5
  go_wp2_with fail
  refine (Dk.rename Hd6.out (by decide) (by decide) Hb6.out.size).mono ?_
  rintro e w7 ⟨rfl, hd7, hb7⟩
  rw [sw6] at hd7 ⊢
  simp only at hd7 ⊢
  have Hb7 := Kp.mk (Hb6.out.trans hb7)
  obtain ⟨n, hn⟩ : ∃ n, n = min a3.toNat len2 := ⟨_, rfl⟩
  have hn' : min a3.toNat c.length = n := by rw [hn, H2.out.len]
  have Hn := Kp.mk hn
  obtain ⟨X, hX⟩ : ∃ X, X = b ++ c := ⟨_, rfl⟩
  obtain ⟨Y, hY⟩ : ∃ Y, Y = b ++ c.take n := ⟨_, rfl⟩
  have HX := Kp.mk hX
  have HY := Kp.mk hY
  have Hcr : Kp ((⟨10000, [(nOld, X, b.length)], [], 0⟩ : DS).crash a3 = ⟨10000, [(nOld, Y, b.length + n)], [], 0⟩) := ⟨by rw [hX, hY, sw7, hn']⟩
  rw [← hX] at hd7
  have LX : Kp (X.length ≤ 400) := ⟨by rw [hX, List.length_append]; have := Lb.out; have := Lc.out; omega⟩
  have LY : Kp (Y.length ≤ 400) := ⟨by rw [hY, List.length_append, List.length_take]; have := Lb.out; have := Lc.out; omega⟩
  have Hd7 := Kp.mk hd7
  clear hd7 hb7 Hd6 Hb6 hn hn' hX hY
  go_wp2_with fail
  refine (read_next Hd7.out (by decide) (sw_read X _ (by have := LX.out; omega)) (by have := LX.out; omega)).mono ?_
  rintro e w8 ⟨A1, c1, rfl, hr1, hs1, hd8, hf8⟩
  have Hr1 := Kp.mk hr1
  have Hs1' := Kp.mk hs1
  have Hd8 := Kp.mk hd8
  have Hf8 := Kp.mk hf8
  clear hr1 hs1 hd8 hf8
  go_wp2_with fail
  refine (crash_any _ _ _ _ _ a3 Hd8.out (by have := Hb7.out.size; have := Hf8.out.size; omega)).mono ?_
  rintro e w9 ⟨rfl, hd9, hf9⟩
  rw [Hcr.out] at hd9
  have Hr1c : Kp (Rd w9 .u8 A1 X.length c1 X) := ⟨Hr1.out.fr Hs1'.out hf9 (fun k h1 _ h => by omega)⟩
  have Hd9 := Kp.mk hd9
  have Hf9 := Kp.mk hf9
  clear hd9 hf9 Hr1
  go_wp2_with fail
  refine (read_next Hd9.out (by decide) (sw_read Y _ (by have := LY.out; omega)) (by have := LY.out; omega)).mono ?_
  rintro e w10 ⟨A3, c3, rfl, hr3, hs3, hd10, hf10⟩
  have Hr1d : Kp (Rd w10 .u8 A1 X.length c1 X) := ⟨Hr1c.out.fr Hs1'.out hf10 (fun k h1 h2 h => by have := Hf9.out.size; rcases h with h | h <;> omega)⟩
  have Hr3 := Kp.mk hr3
  have Hd10 := Kp.mk hd10
  have Hf10 := Kp.mk hf10
  clear hr3 hs3 hd10 hf10 Hr1c
  go_wp2_with fail
  refine (list_len Hd10.out rfl).mono ?_
  rintro e w11 ⟨Al, cl, rfl, hb11⟩
  have hrx : Rd w11 .u8 A1 X.length c1 X := Hr1d.out.below hb11
  have hr3 : Rd w11 .u8 A3 Y.length c3 Y := Hr3.out.below hb11
  have HB : Kp (Below w.heap.size w w11) := ⟨by
    have s7 := Hb7.out.size
    have s8 := Hf8.out.size
    have s9 := Hf9.out.size
    have s10 := Hf10.out.size
    have b8 : Below wa.heap.size w7 w8 := Hf8.out.toBelow (fun k h => h.1) s7
    have b9 : Below wa.heap.size w8 w9 := Hf9.out.toBelow (fun k h => h.1) (by omega)
    have b10 : Below wa.heap.size w9 w10 := Hf10.out.toBelow (fun k h => by rcases h with h | h; exact h.1; omega) (by omega)
    exact Hba.out.trans (((((Hb7.out.trans b8).trans b9).trans b10).trans (hb11.mono (by omega))).mono HA.out)⟩
  have hsame : ∀ nq, Below w11.heap.size w11 (w11.drewN nq) := fun nq => below_drewN (Below.refl _ _) nq
  have ex : ∀ nq, (convert 26 9 (.slice A1 X.length c1)).run Try.prog (w11.drewN nq) = .ok (.string (strOfNums X)) (w11.drewN nq) := fun nq => rd_string (hrx.below (hsame nq))
  have ez : ∀ nq, (convert 26 9 (.slice A3 Y.length c3)).run Try.prog (w11.drewN nq) = .ok (.string (strOfNums Y)) (w11.drewN nq) := fun nq => rd_string (hr3.below (hsame nq))
  have eb : ∀ nq, (convert 26 9 (.slice a1 len1 cap1)).run Try.prog (w11.drewN nq) = .ok (.string (strOfNums b)) (w11.drewN nq) := fun nq => rd_string (H1.out.below (HB.out.trans ((hsame nq).mono HB.out.size)))
  have ec : ∀ nq, (convert 26 9 (.slice a2 len2 cap2)).run Try.prog (w11.drewN nq) = .ok (.string (strOfNums c)) (w11.drewN nq) := fun nq => rd_string (H2.out.below (HB.out.trans ((hsame nq).mono HB.out.size)))
  have ed : ∀ nq, (convert 26 9 (.slice a2 n cap2)).run Try.prog (w11.drewN nq) = .ok (.string (strOfNums (c.take n))) (w11.drewN nq) := fun nq => rd_string ((H2.out.take (by have := Hn.out; omega)).below (HB.out.trans ((hsame nq).mono HB.out.size)))
  clear hrx hr3 hb11 hsame
  have hsx : strOfNums X = strOfNums b ++ strOfNums c := by rw [HX.out, strOfNums_append]
  have hsy : strOfNums Y = strOfNums b ++ strOfNums (c.take n) := by rw [HY.out, strOfNums_append]
  rw [hsx] at ex
  rw [hsy] at ez
  clear hsx hsy
  have hsz : (strOfNums b).size + (strOfNums c).size ≤ 9223372036854775807 := by rw [strOfNums_size, strOfNums_size]; have := Lb.out; have := Lc.out; omega
  have hsz2 : (strOfNums b).size + (strOfNums (c.take n)).size ≤ 9223372036854775807 := by rw [strOfNums_size, strOfNums_size, List.length_take]; have := Lb.out; have := Lc.out; omega
  generalize strOfNums (c.take n) = sd at *
  generalize strOfNums b = sb at *
  generalize strOfNums c = sc at *
  go_wp2_with fail
  go_quiet (first | (go_at_call 12; exact Calls.quiet_of_same (num_any _ _)) | (go_at_call_of 19 len2; exact Calls.quiet_of_same (cut_any _ _ _ _ n _ Hn.out (by omega) hc2 ⟨hkp1, hkp2⟩)))
  go_wp2
  go_ret
  exact ⟨rfl, HB.out.trans ((below_drewN (Below.refl _ _) _).mono HB.out.size)⟩

/-! ### THE ROW's STEP: WRITTEN OUT: LEAVE IT -/
set_option maxRecDepth 100000 in
theorem lifted (os : Os) (started : os.Started) (H : Type) (enc : TypeId × Value → H) :
    ReturnsInHanded {} Try.checked os 6 .any (Rows.diskSwapsSpec.pre6 enc Try.prog Try.f6 Rows.diskSwapsRow.domain false) (Rows.diskSwapsSpec.post enc Try.prog Try.f6 false true false false) := by
  refine returnsInHanded_of_change (C := Try.checked) own started (by kernel_rfl) Try.func6
    (ChangeSpec.witness6 (enc := enc) (C := Try.checked) false ⟨#[], #[.slice none 0 0, .slice none 0 0, .slice none 0 0, .int .i64 0], []⟩ 8 (by kernel_rfl) (by kernel_rfl) (by kernel_rfl) (by kernel_rfl)) ?_
  intro W base args ds gs before hval0 hW hcnd _
  have hval : ∀ (j : Nat) t v, Try.f6.params[j]? = some t → args[j]? = some v → Value.okWide Try.prog W .any base t v := hval0
  have hW' := hW
  obtain ⟨p, q, hA0, hV, rfl, hfz, hnd⟩ := hW
  have hA : DataW.TrodAll enc Try.prog W 0 (fun _ => true) true Try.f6.params.toList args.toList ds p := hA0
  rw [Try.params6] at hA hval
  obtain ⟨v0, vs0, d0, ds0, p0, q0, hargs, rfl, rfl, h0, r0⟩ := trodAll_cons hA
  obtain ⟨v1, vs1, d1, ds1, p1, q1, rfl, rfl, rfl, h1, r1⟩ := trodAll_cons r0
  obtain ⟨v2, vs2, d2, ds2, p2, q2, rfl, rfl, rfl, h2, r2⟩ := trodAll_cons r1
  obtain ⟨v3, vs3, d3, ds3, p3, q3, rfl, rfl, rfl, h3, r3⟩ := trodAll_cons r2
  obtain ⟨rfl, rfl, rfl⟩ := trodAll_nil r3
  obtain rfl : args = #[v0, v1, v2, v3] := by cases args; simp_all
  obtain ⟨rfl, rfl⟩ := trodVars_none hV
  obtain ⟨a0, len0, cap0, rfl⟩ := okWide_slice Try.underlying26 (hval 0 26 v0 rfl rfl)
  have k0 := h0
  have lt0 : ∀ x ∈ p0, x.block < W.heap.size := by obtain ⟨m, hm⟩ := k0; exact DataW.trod_lt m _ _ _ hm
  obtain ⟨z0, w0⟩ : ∃ zs, IsRow .u8 W a0 len0 cap0 zs := by
    obtain ⟨fuel, hf⟩ := h0
    rcases open_ints Try.underlying26 Try.underlying5 (by kernel_rfl) hf with ⟨hcs, _⟩ | ⟨x, l, c, zs, hcs, _, hl, hm, hz, _, hcell, hwz⟩
    · simp [Value.cells] at hcs
      obtain ⟨rfl, rfl, rfl⟩ := hcs
      exact ⟨[], .inl ⟨rfl, rfl, rfl, rfl⟩⟩
    · simp [Value.cells] at hcs
      obtain ⟨rfl, rfl, rfl⟩ := hcs
      exact ⟨zs, .inr ⟨_, rfl, hl, hm, by simpa using hz, hcell, hwz⟩⟩
  obtain ⟨a1, len1, cap1, rfl⟩ := okWide_slice Try.underlying26 (hval 1 26 v1 rfl rfl)
  have k1 := h1
  have lt1 : ∀ x ∈ p1, x.block < W.heap.size := by obtain ⟨m, hm⟩ := k1; exact DataW.trod_lt m _ _ _ hm
  obtain ⟨z1, w1⟩ : ∃ zs, IsRow .u8 W a1 len1 cap1 zs := by
    obtain ⟨fuel, hf⟩ := h1
    rcases open_ints Try.underlying26 Try.underlying5 (by kernel_rfl) hf with ⟨hcs, _⟩ | ⟨x, l, c, zs, hcs, _, hl, hm, hz, _, hcell, hwz⟩
    · simp [Value.cells] at hcs
      obtain ⟨rfl, rfl, rfl⟩ := hcs
      exact ⟨[], .inl ⟨rfl, rfl, rfl, rfl⟩⟩
    · simp [Value.cells] at hcs
      obtain ⟨rfl, rfl, rfl⟩ := hcs
      exact ⟨zs, .inr ⟨_, rfl, hl, hm, by simpa using hz, hcell, hwz⟩⟩
  obtain ⟨a2, len2, cap2, rfl⟩ := okWide_slice Try.underlying26 (hval 2 26 v2 rfl rfl)
  have k2 := h2
  have lt2 : ∀ x ∈ p2, x.block < W.heap.size := by obtain ⟨m, hm⟩ := k2; exact DataW.trod_lt m _ _ _ hm
  obtain ⟨z2, w2⟩ : ∃ zs, IsRow .u8 W a2 len2 cap2 zs := by
    obtain ⟨fuel, hf⟩ := h2
    rcases open_ints Try.underlying26 Try.underlying5 (by kernel_rfl) hf with ⟨hcs, _⟩ | ⟨x, l, c, zs, hcs, _, hl, hm, hz, _, hcell, hwz⟩
    · simp [Value.cells] at hcs
      obtain ⟨rfl, rfl, rfl⟩ := hcs
      exact ⟨[], .inl ⟨rfl, rfl, rfl, rfl⟩⟩
    · simp [Value.cells] at hcs
      obtain ⟨rfl, rfl, rfl⟩ := hcs
      exact ⟨zs, .inr ⟨_, rfl, hl, hm, by simpa using hz, hcell, hwz⟩⟩
  obtain ⟨a3, rfl, rfl, rfl, w3⟩ := open_int Try.underlying3 (hval 3 3 v3 rfl rfl) h3
  clear hA0 hval0
  refine (walk a0 len0 cap0 z0 a1 len1 cap1 z1 a2 len2 cap2 z2 a3 W w0 w1 w2 w3).mono fun e W' ⟨he, bel⟩ => ?_
  subst he
  exact ⟨_, rfl, _, _, _, [], _, [], hW', trodAll_mk1 (shut_bool Try.underlying4 _), (trodAll_cons_mk (Below.trod laidOut (by kernel_rfl) (of_decide_eq_true (by kernel_rfl)) k0 bel lt0) (trodAll_cons_mk (Below.trod laidOut (by kernel_rfl) (of_decide_eq_true (by kernel_rfl)) k1 bel lt1) (trodAll_cons_mk (Below.trod laidOut (by kernel_rfl) (of_decide_eq_true (by kernel_rfl)) k2 bel lt2) (trodAll_cons_mk (shut_int Try.underlying3 w3) trodAll_mk0)))), rfl, bel.frame _, fun h => by cases h⟩

theorem over : Rows.diskSwapsRow.holds Try.pinned (OpenSpec.ofChange Rows.diskSwapsSpec) :=
  OpenClaim.holds_of_wide 6 Try.f6 rfl rfl rfl rfl rfl rfl rfl ⟨rfl, rfl, rfl, rfl, rfl⟩ rfl rfl rfl rfl rfl (by kernel_rfl) Try.func6 (by kernel_rfl)
    (of_decide_eq_true (by kernel_rfl)) (by unfold Func.isWrapper; first | (rw [if_pos (by decide +kernel)]; kernel_rfl) | (rw [if_neg (by decide +kernel)]; exact ⟨rfl, rfl⟩))
    (fun os started H enc _ => lifted os started H enc)

/-- ████ THE STATEMENT ████ -/
theorem proved : Rows.DiskSwapsSaid := over
#print axioms proved
end Go.Proofs.Ytgeklapphkgdkaa.diskSwaps
