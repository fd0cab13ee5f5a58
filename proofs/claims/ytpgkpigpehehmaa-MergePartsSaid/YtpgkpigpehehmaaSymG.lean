import Derived.Test.YtpgkpigpehehmaaSymF
set_option linter.unusedVariables false
set_option linter.unusedSimpArgs false
namespace Go.Proofs.Ytpgkpigpehehmaa.Bas
open Go.RowKit Go.Maps Go.Sort Go.Shelf Go.Lib

section
variable {α : Type} {lt : α → α → Bool}
theorem srt_ext {f g : Nat → α} {a b : Nat} (h : ∀ k, a ≤ k → k < b → g k = f k) (hs : Srt lt f a b) : Srt lt g a b := fun i j h1 h2 h3 => by
  rw [h i h1 (by omega), h j (by omega) h3]
  exact hs i j h1 h2 h3
theorem rot_srt {f : Nat → α} {a m b s e mid : Nat} (hu : Srt lt f a m) (hv : Srt lt f m b) (h1 : a ≤ s) (h2 : s ≤ m) (h3 : m ≤ e) (h4 : e ≤ b) (hmid : mid = s + (e - m)) :
    Srt lt (rotF f s m e) a s ∧ Srt lt (rotF f s m e) s mid ∧ Srt lt (rotF f s m e) mid e ∧ Srt lt (rotF f s m e) e b := by
  refine ⟨srt_ext (fun k _ hk => rot_out f h2 h3 (.inl hk)) (hu.sub lt (Nat.le_refl _) h2), fun i j a1 a2 a3 => ?_, fun i j a1 a2 a3 => ?_, srt_ext (fun k hk _ => rot_out f h2 h3 (.inr hk)) (hv.sub lt h3 (Nat.le_refl _))⟩
  · have e1 : ∀ k, s ≤ k → k < mid → rotF f s m e k = f (k + (m - s)) := fun k k1 k2 => by
      unfold rotF
      rw [if_pos (by omega)]
    rw [e1 i a1 (by omega), e1 j (by omega) a3]
    exact hv _ _ (by omega) (by omega) (by omega)
  · have e1 : ∀ k, mid ≤ k → k < e → rotF f s m e k = f (k - (e - m)) := fun k k1 k2 => by
      unfold rotF
      rw [if_neg (by omega), if_pos (by omega)]
    rw [e1 i a1 (by omega), e1 j (by omega) a3]
    exact hu _ _ (by omega) (by omega) (by omega)
theorem rot_none {f : Nat → α} {s m e : Nat} (h2 : s ≤ m) (h3 : m ≤ e) (h : s = m ∨ m = e) : rotF f s m e = f := by
  funext q
  unfold rotF
  repeat' split
  all_goals first | rfl | (congr 1; omega) | (exfalso; omega)
theorem symOK_left {f : Nat → α} {a s mid : Nat} (h1 : a ≤ s) (h2 : s ≤ mid) (h : s = a ∨ s = mid) : SymOK lt f f a s mid := symOK_same h1 h2 (fun x hx y hy => by
  rcases h with h | h
  · rw [seg_nil f (by omega)] at hx; cases hx
  · rw [seg_nil f (by omega)] at hy; cases hy)
end
/-- What the calls of smaller stretches tell. -/
def SymIH (P : Program) {α : Type} [Inhabited α] (enc : α → List Value) (k : Nat) (cf : α → α → Int) (w0 : World) (blk off cap N g D : Nat) : Prop :=
  ∀ (W : World) (dk : Array α) (x y z : Nat), z - x < D → x < y → y < z → z ≤ N → dk.size = N → SWK enc k w0 blk off dk W → Srt (ltOf cf) (get dk) x y → Srt (ltOf cf) (get dk) y z →
    Calls P 33 #[.slice (some ⟨blk, off, none⟩) N cap, .int .i64 x, .int .i64 y, .int .i64 z, .func (.func g) #[] #[]] W (SymTo enc k cf w0 blk off N (get dk) x y z)
def RotC (P : Program) {α : Type} [Inhabited α] (enc : α → List Value) (k : Nat) (w0 : World) (blk off cap N g : Nat) : Prop :=
  ∀ (W : World) (dk : Array α) (x y z : Nat), x < y → y < z → z ≤ N → dk.size = N → SWK enc k w0 blk off dk W →
    Calls P 37 #[.slice (some ⟨blk, off, none⟩) N cap, .int .i64 x, .int .i64 y, .int .i64 z, .func (.func g) #[] #[]] W (RowTo enc k w0 blk off N (rotF (get dk) x y z))
set_option maxHeartbeats 16000000 in
set_option maxRecDepth 1000000 in
theorem sym_c {α : Type} [Inhabited α] {enc : α → List Value} {k : Nat} (hk : k = 4) {cf : α → α → Int} {blk off cap : Nat} {d0 d : Array α} {w0 w : World} (a m b : Nat)
    (R : RowK enc k w0 blk off d0) (hC : CmpLays Try.prog 19 #[] enc k cf blk off d0.size w0) (hs : d0.size = d.size) (S : SWK enc k w0 blk off d w) (ham : a + 1 < m) (hmb : m + 1 < b) (hb : b ≤ d.size) (hsz : d.size ≤ 1000000)
    (hT : NT (ltOf cf)) (hu : Srt (ltOf cf) (get d) a m) (hv : Srt (ltOf cf) (get d) m b) (ih : SymIH Try.prog enc k cf w0 blk off cap d.size 19 (b - a)) :
    Calls Try.prog 33 #[.slice (some ⟨blk, off, none⟩) d.size cap, .int .i64 a, .int .i64 m, .int .i64 b, .func (.func 19) #[] #[]] w (SymTo enc k cf w0 blk off d.size (get d) a m b) := by
  have HRo : Kp (RotC Try.prog enc k w0 blk off cap d.size 19) := ⟨fun W dk x y z h1 h2 h3 h4 h5 => by
    have := rotate_any hk (cap := cap) 19 x y z R (hs.trans h4.symm) h5 h1 h2 (by omega) (by omega)
    rwa [h4] at this⟩
  have HIH := Kp.mk ih
  have S0 : Aside (SWK enc k w0 blk off d w) := S
  have HC : Aside (CmpLays Try.prog 19 #[] enc k cf blk off d0.size w0) := hC
  have HT := Kp.mk hT
  have HU := Kp.mk hu
  have HV := Kp.mk hv
  have r1 : IntKind.i64.wrap ((m : Int) - (a : Int)) = (m : Int) - (a : Int) := by rw [IntKind.wrap_i64]; omega
  have r1' : ((m : Int) - (a : Int) == 1) = false := by rw [beq_eq_false_iff_ne]; omega
  have r2 : IntKind.i64.wrap ((b : Int) - (m : Int)) = (b : Int) - (m : Int) := by rw [IntKind.wrap_i64]; omega
  have r2' : ((b : Int) - (m : Int) == 1) = false := by rw [beq_eq_false_iff_ne]; omega
  obtain ⟨mid, hmid⟩ : ∃ mid : Nat, ((a : Int) + (b : Int)) / 2 = mid := ⟨(a + b) / 2, by omega⟩
  obtain ⟨n, hn⟩ : ∃ n, n = mid + m := ⟨_, rfl⟩
  obtain ⟨p, hp⟩ : ∃ p, n = p + 1 := ⟨n - 1, by omega⟩
  have r3 : IntKind.i64.wrap ((mid : Int) + (m : Int)) = (n : Int) := by rw [IntKind.wrap_i64]; omega
  have r4 : IntKind.i64.wrap ((n : Int) - 1) = (p : Int) := by rw [IntKind.wrap_i64]; omega
  have HM : Kp (2 * mid ≤ a + b ∧ a + b ≤ 2 * mid + 1 ∧ n = mid + m ∧ n = p + 1) := ⟨by omega, by omega, hn, hp⟩
  have aE := Try.isAgg40
  have zE : ∀ w, (Go.sizeOf 40).run Try.prog w = .ok k w := by rw [hk]; exact Try.sizeOf40
  have eg : ∀ args w, (callFunc 19 args).run Try.prog w = .ok (.enter 19 args) w := enters_of Try.func19 (by kernel_rfl) rfl
  have mixed : Try.prog.follows .mixedOrders = true := by kernel_rfl
  have t0 := Try.underlying0; have a0 := Try.isAgg0; have z0 := Try.sizeOf0; have v0 := Try.zeroValue0
  have t3 := Try.underlying3; have a3 := Try.isAgg3; have z3 := Try.sizeOf3; have v3 := Try.zeroValue3
  have t4 := Try.underlying4; have a4 := Try.isAgg4; have z4 := Try.sizeOf4; have v4 := Try.zeroValue4
  have t59 := Try.underlying59; have a59 := Try.isAgg59; have z59 := Try.sizeOf59; have v59 := Try.zeroValue59
  have t22 := Try.underlying25; have a22 := Try.isAgg25; have z22 := Try.sizeOf25; have v22 := Try.zeroValue25
  have t25 := Try.underlying46; have a25 := Try.isAgg46; have z25 := Try.sizeOf46; have v25 := Try.zeroValue46
  have eg37 : ∀ args w, (callFunc 37 args).run Try.prog w = .ok (.enter 37 args) w := enters_of Try.func37 (by kernel_rfl) rfl
  have eg33 : ∀ args w, (callFunc 33 args).run Try.prog w = .ok (.enter 33 args) w := enters_of Try.func33 (by kernel_rfl) rfl
  clear hk S hC hT hu hv ih hn hp
  by_cases hmm : (mid : Int) < (m : Int)
  · skip
    obtain ⟨s0, hs0⟩ : ∃ s0, n = s0 + b := ⟨n - b, by have := HM.out; omega⟩
    have r5 : IntKind.i64.wrap ((n : Int) - (b : Int)) = (s0 : Int) := by have := HM.out; rw [IntKind.wrap_i64]; omega
    have HS0 := Kp.mk hs0
    clear hs0
    go_enter Try.func33, Try.ntmps33
    generalize Try.prog = P at *
    go_wp2_with fail
    go_loopw [20, 21] (fun s t wr => ∃ (i j : Nat), s = .int .i64 i ∧ t = .int .i64 j ∧ s0 ≤ i ∧ i ≤ j ∧ j ≤ mid ∧ Aside (SWK enc k w0 blk off d wr) ∧ Kp (s0 < i → ltOf cf (get d (n - i)) (get d (i - 1)) = false) ∧ Kp (j < mid → ltOf cf (get d (p - j)) (get d j) = true)) (fun s t _ => (intOf t).toNat - (intOf s).toNat)
    case atStart => exact ⟨s0, mid, rfl, rfl, Nat.le_refl _, by have := HM.out; have := HS0.out; omega, Nat.le_refl _, S0, ⟨fun h => by omega⟩, ⟨fun h => by omega⟩⟩
    case round =>
      clear S0
      obtain ⟨i, j, rfl, rfl, hmi, hij, hjb, S1, HI, HJ⟩ := hrel
      by_cases hlt : i < j
      · have hltz : (i : Int) < (j : Int) := by omega
        obtain ⟨h, hh⟩ : ∃ h : Nat, ((i : Int) + (j : Int)) / 2 = h := ⟨(i + j) / 2, by omega⟩
        have hih : i ≤ h := by omega
        have hhj : h < j := by omega
        obtain ⟨x, hx⟩ : ∃ x, p = x + h := ⟨p - h, by have := HM.out; omega⟩
        have rx : IntKind.i64.wrap ((p : Int) - (h : Int)) = (x : Int) := by have := HM.out; rw [IntKind.wrap_i64]; omega
        have hxs : x < d.size := by have := HM.out; have := HS0.out; omega
        have HX : Kp (x = p - h ∧ x = n - (h + 1)) := ⟨by omega, by have := HM.out; omega⟩
        clear hx
        go_wp2_with fail
        have e1 : ((x : Int)).toNat = x := by omega
        have p1 : (0 : Int) ≤ (x : Int) := by omega
        have b1 : (x : Int) < (d.size : Int) := by omega
        have e2 : ((h : Int)).toNat = h := by omega
        have p2 : (0 : Int) ≤ (h : Int) := by omega
        have b2 : (h : Int) < (d.size : Int) := by have := HM.out; omega
        have lj := S1.out.ld R hs.symm P x hxs
        have lp := S1.out.ld R hs.symm P h (by omega)
        have hcg := fun (n' : Nat) (os' : Array Obj) => S1.out.cmp HC.out hs.symm d[x]! d[h]! n' os'
        simp only [Array.append_empty] at hcg
        have Hd : Kp (ltOf cf (get d x) (get d h) = decide (cf d[x]! d[h]! < 0)) := ⟨rfl⟩
        have SG : Kp (∀ n os, SWK enc k w0 blk off d (grow (wr.drewN n) os)) := ⟨fun n os => S1.out.grown n os⟩
        generalize enc d[x]! = cX at lj hcg
        generalize enc d[h]! = cH at lp hcg
        obtain ⟨z, hz⟩ : ∃ z, z = cf d[x]! d[h]! := ⟨_, rfl⟩
        rw [← hz] at hcg Hd
        clear hz S1
        by_cases hneg : z < 0
        · rw [decide_eq_true hneg] at Hd
          go_quiet_grown (first | (go_at_call 19; refine Calls.grown_of (hcg _ _)))
          clear lj lp hcg
          go_wp2_with fail
          go_roundw
          case rel => exact ⟨i, h, rfl, by first | rfl | go_num, by omega, by omega, by omega, SG.out nq osq, HI, ⟨fun _ => by rw [← HX.out.1]; exact Hd.out⟩⟩
          case measure => simp [intOf]; omega
        · rw [decide_eq_false hneg] at Hd
          go_quiet_grown (first | (go_at_call 19; refine Calls.grown_of (hcg _ _)))
          clear lj lp hcg
          go_wp2_with fail
          go_roundw
          case rel => exact ⟨h + 1, j, by first | rfl | go_num, rfl, by omega, by omega, hjb, SG.out nq osq, ⟨fun _ => by rw [Nat.add_sub_cancel, ← HX.out.2]; exact Hd.out⟩, HJ⟩
          case measure => simp [intOf]; omega
      · obtain rfl : i = j := by omega
        obtain ⟨e, he⟩ : ∃ e, n = e + i := ⟨n - i, by have := HM.out; omega⟩
        have q1 : a ≤ i := by have := HM.out; have := HS0.out; omega
        have q2 : i ≤ m := by have := HM.out; have := HS0.out; omega
        have q3 : m ≤ e := by have := HM.out; have := HS0.out; omega
        have q4 : e ≤ b := by have := HM.out; have := HS0.out; omega
        have q5 : mid = i + (e - m) := by have := HM.out; omega
        have q6 : i ≤ mid := by omega
        have q7 : mid ≤ e := by omega
        have qs : mid - a < b - a ∧ b - mid < b - a := by have := HM.out; omega
        have HCut := Kp.mk (cut_all HT.out HU.out HV.out q1 q2 q3 q4 (fun x1 x2 => by have h9 := HI.out (by have := HM.out; have := HS0.out; omega); rwa [show n - i = e by omega] at h9) (fun x1 x2 => by have h9 := HJ.out (by have := HM.out; have := HS0.out; omega); rwa [show p - i = e - 1 by have := HM.out; omega] at h9))
        have HSr := Kp.mk (rot_srt HU.out HV.out q1 q2 q3 q4 q5)
        have r6 : IntKind.i64.wrap ((n : Int) - (i : Int)) = (e : Int) := by have := HM.out; rw [IntKind.wrap_i64]; omega
        have HE : Kp (∀ F2 F3 : Nat → α, SymOK (ltOf cf) (rotF (get d) i m e) F2 a i mid → SymOK (ltOf cf) F2 F3 mid e b → SymOK (ltOf cf) (get d) F3 a m b) := ⟨fun F2 F3 k2 k3 => symOK_join q1 q2 q3 q4 q5 HCut.out k2 k3⟩
        have HQ : Kp (i ≤ m ∧ m ≤ e ∧ a ≤ i ∧ i ≤ mid ∧ mid ≤ e ∧ e ≤ b ∧ b ≤ d.size ∧ mid - a < b - a ∧ b - mid < b - a) := ⟨q2, q3, q1, q6, q7, q4, hb, qs.1, qs.2⟩
        clear HI HJ hlt hij HC HT HU HV HCut he hmi hjb q1 q2 q3 q4 q5 q6 q7 qs HS0
        by_cases x1 : i < m ∧ m < e
        · skip
          have x1a : (i : Int) < (m : Int) := by omega
          have x1b : (m : Int) < (e : Int) := by omega
          have Hrc := Kp.mk (HRo.out _ d i m e x1.1 x1.2 (by have := HQ.out; omega) rfl S1.out)
          by_cases x2 : a < i ∧ i < mid
          · skip
            have x2a : (a : Int) < (i : Int) := by omega
            have x2b : (i : Int) < (mid : Int) := by omega
            by_cases x3 : mid < e ∧ e < b
            · skip
              have x3a : (mid : Int) < (e : Int) := by omega
              have x3b : (e : Int) < (b : Int) := by omega
              go_wp2_with (first | (go_at_call 37; refine Hrc.out.mono ?_; rintro _ w1 ⟨rfl, d1, hz1, S1', hG1⟩; have Hz1 := Kp.mk hz1; have HG1 : Kp (get d1 = rotF (get d) i m e) := ⟨hG1⟩; have HA : Kp (∀ x y z, z - x < b - a → x < y → y < z → z ≤ d.size → Srt (ltOf cf) (rotF (get d) i m e) x y → Srt (ltOf cf) (rotF (get d) i m e) y z → Calls P 33 #[.slice (some ⟨blk, off, none⟩) d.size cap, .int .i64 x, .int .i64 y, .int .i64 z, .func (.func 19) #[] #[]] w1 (SymTo enc k cf w0 blk off d.size (rotF (get d) i m e) x y z)) := ⟨fun x y z g1 g2 g3 g4 g5 g6 => by rw [← hG1] at g5 g6 ⊢; exact HIH.out w1 d1 x y z g1 g2 g3 g4 hz1 S1' g5 g6⟩; have SA : Aside (SWK enc k w0 blk off d1 w1) := S1'; clear hz1 S1' hG1) | (go_at_call_of 33 (Value.int .i64 (a : Int)); refine (HA.out a i mid HQ.out.2.2.2.2.2.2.2.1 x2.1 x2.2 (by have := HQ.out; omega) HSr.out.1 HSr.out.2.1).mono ?_; rintro _ w2 ⟨rfl, d2, hz2, S2, hK2⟩; have Hz2 := Kp.mk hz2; have SB : Aside (SWK enc k w0 blk off d2 w2) := S2; have HK2 := Kp.mk hK2; clear hz2 S2 hK2) | (go_at_call_of 33 (Value.int .i64 (mid : Int)); refine (HIH.out w2 d2 mid e b HQ.out.2.2.2.2.2.2.2.2 x3.1 x3.2 HQ.out.2.2.2.2.2.2.1 Hz2.out SB.out (srt_ext (fun k hk _ => HK2.out.2 k (.inr hk)) HSr.out.2.2.1) (srt_ext (fun k hk _ => HK2.out.2 k (.inr (by have := HQ.out; omega))) HSr.out.2.2.2)).mono ?_; rintro _ w3 ⟨rfl, d3, hz3, S3, hK3⟩))
              all_goals (go_end0; exact ⟨rfl, d3, hz3, S3, HE.out _ _ HK2.out hK3⟩)
            · skip
              by_cases x3L : mid < e
              · skip
                have x3a : (mid : Int) < (e : Int) := by omega
                have x3b : ¬ (e : Int) < (b : Int) := by omega
                go_wp2_with (first | (go_at_call 37; refine Hrc.out.mono ?_; rintro _ w1 ⟨rfl, d1, hz1, S1', hG1⟩; have Hz1 := Kp.mk hz1; have HG1 : Kp (get d1 = rotF (get d) i m e) := ⟨hG1⟩; have HA : Kp (∀ x y z, z - x < b - a → x < y → y < z → z ≤ d.size → Srt (ltOf cf) (rotF (get d) i m e) x y → Srt (ltOf cf) (rotF (get d) i m e) y z → Calls P 33 #[.slice (some ⟨blk, off, none⟩) d.size cap, .int .i64 x, .int .i64 y, .int .i64 z, .func (.func 19) #[] #[]] w1 (SymTo enc k cf w0 blk off d.size (rotF (get d) i m e) x y z)) := ⟨fun x y z g1 g2 g3 g4 g5 g6 => by rw [← hG1] at g5 g6 ⊢; exact HIH.out w1 d1 x y z g1 g2 g3 g4 hz1 S1' g5 g6⟩; have SA : Aside (SWK enc k w0 blk off d1 w1) := S1'; clear hz1 S1' hG1) | (go_at_call_of 33 (Value.int .i64 (a : Int)); refine (HA.out a i mid HQ.out.2.2.2.2.2.2.2.1 x2.1 x2.2 (by have := HQ.out; omega) HSr.out.1 HSr.out.2.1).mono ?_; rintro _ w2 ⟨rfl, d2, hz2, S2, hK2⟩; have Hz2 := Kp.mk hz2; have SB : Aside (SWK enc k w0 blk off d2 w2) := S2; have HK2 := Kp.mk hK2; clear hz2 S2 hK2))
                all_goals (go_end0; exact ⟨rfl, d2, Hz2.out, SB.out, HE.out _ _ HK2.out (symOK_left HQ.out.2.2.2.2.1 HQ.out.2.2.2.2.2.1 (by have := HQ.out; omega))⟩)
              · skip
                have x3a : ¬ (mid : Int) < (e : Int) := by omega
                go_wp2_with (first | (go_at_call 37; refine Hrc.out.mono ?_; rintro _ w1 ⟨rfl, d1, hz1, S1', hG1⟩; have Hz1 := Kp.mk hz1; have HG1 : Kp (get d1 = rotF (get d) i m e) := ⟨hG1⟩; have HA : Kp (∀ x y z, z - x < b - a → x < y → y < z → z ≤ d.size → Srt (ltOf cf) (rotF (get d) i m e) x y → Srt (ltOf cf) (rotF (get d) i m e) y z → Calls P 33 #[.slice (some ⟨blk, off, none⟩) d.size cap, .int .i64 x, .int .i64 y, .int .i64 z, .func (.func 19) #[] #[]] w1 (SymTo enc k cf w0 blk off d.size (rotF (get d) i m e) x y z)) := ⟨fun x y z g1 g2 g3 g4 g5 g6 => by rw [← hG1] at g5 g6 ⊢; exact HIH.out w1 d1 x y z g1 g2 g3 g4 hz1 S1' g5 g6⟩; have SA : Aside (SWK enc k w0 blk off d1 w1) := S1'; clear hz1 S1' hG1) | (go_at_call_of 33 (Value.int .i64 (a : Int)); refine (HA.out a i mid HQ.out.2.2.2.2.2.2.2.1 x2.1 x2.2 (by have := HQ.out; omega) HSr.out.1 HSr.out.2.1).mono ?_; rintro _ w2 ⟨rfl, d2, hz2, S2, hK2⟩; have Hz2 := Kp.mk hz2; have SB : Aside (SWK enc k w0 blk off d2 w2) := S2; have HK2 := Kp.mk hK2; clear hz2 S2 hK2))
                all_goals (go_end0; exact ⟨rfl, d2, Hz2.out, SB.out, HE.out _ _ HK2.out (symOK_left HQ.out.2.2.2.2.1 HQ.out.2.2.2.2.2.1 (by have := HQ.out; omega))⟩)
          · skip
            by_cases x2L : a < i
            · skip
              have x2a : (a : Int) < (i : Int) := by omega
              have x2b : ¬ (i : Int) < (mid : Int) := by omega
              by_cases x3 : mid < e ∧ e < b
              · skip
                have x3a : (mid : Int) < (e : Int) := by omega
                have x3b : (e : Int) < (b : Int) := by omega
                go_wp2_with (first | (go_at_call 37; refine Hrc.out.mono ?_; rintro _ w1 ⟨rfl, d1, hz1, S1', hG1⟩; have Hz1 := Kp.mk hz1; have HG1 : Kp (get d1 = rotF (get d) i m e) := ⟨hG1⟩; have HA : Kp (∀ x y z, z - x < b - a → x < y → y < z → z ≤ d.size → Srt (ltOf cf) (rotF (get d) i m e) x y → Srt (ltOf cf) (rotF (get d) i m e) y z → Calls P 33 #[.slice (some ⟨blk, off, none⟩) d.size cap, .int .i64 x, .int .i64 y, .int .i64 z, .func (.func 19) #[] #[]] w1 (SymTo enc k cf w0 blk off d.size (rotF (get d) i m e) x y z)) := ⟨fun x y z g1 g2 g3 g4 g5 g6 => by rw [← hG1] at g5 g6 ⊢; exact HIH.out w1 d1 x y z g1 g2 g3 g4 hz1 S1' g5 g6⟩; have SA : Aside (SWK enc k w0 blk off d1 w1) := S1'; clear hz1 S1' hG1) | (go_at_call_of 33 (Value.int .i64 (mid : Int)); refine (HA.out mid e b HQ.out.2.2.2.2.2.2.2.2 x3.1 x3.2 HQ.out.2.2.2.2.2.2.1 HSr.out.2.2.1 HSr.out.2.2.2).mono ?_; rintro _ w3 ⟨rfl, d3, hz3, S3, hK3⟩))
                all_goals (go_end0; exact ⟨rfl, d3, hz3, S3, HE.out _ _ (symOK_left HQ.out.2.2.1 HQ.out.2.2.2.1 (by have := HQ.out; omega)) hK3⟩)
              · skip
                by_cases x3L : mid < e
                · skip
                  have x3a : (mid : Int) < (e : Int) := by omega
                  have x3b : ¬ (e : Int) < (b : Int) := by omega
                  go_wp2_with (first | (go_at_call 37; refine Hrc.out.mono ?_; rintro _ w1 ⟨rfl, d1, hz1, S1', hG1⟩; have Hz1 := Kp.mk hz1; have HG1 : Kp (get d1 = rotF (get d) i m e) := ⟨hG1⟩; have HA : Kp (∀ x y z, z - x < b - a → x < y → y < z → z ≤ d.size → Srt (ltOf cf) (rotF (get d) i m e) x y → Srt (ltOf cf) (rotF (get d) i m e) y z → Calls P 33 #[.slice (some ⟨blk, off, none⟩) d.size cap, .int .i64 x, .int .i64 y, .int .i64 z, .func (.func 19) #[] #[]] w1 (SymTo enc k cf w0 blk off d.size (rotF (get d) i m e) x y z)) := ⟨fun x y z g1 g2 g3 g4 g5 g6 => by rw [← hG1] at g5 g6 ⊢; exact HIH.out w1 d1 x y z g1 g2 g3 g4 hz1 S1' g5 g6⟩; have SA : Aside (SWK enc k w0 blk off d1 w1) := S1'; clear hz1 S1' hG1))
                  all_goals (go_end0; exact ⟨rfl, d1, Hz1.out, SA.out, by have h9 := HE.out _ _ (symOK_left HQ.out.2.2.1 HQ.out.2.2.2.1 (by have := HQ.out; omega)) (symOK_left HQ.out.2.2.2.2.1 HQ.out.2.2.2.2.2.1 (by have := HQ.out; omega)); rwa [← HG1.out] at h9⟩)
                · skip
                  have x3a : ¬ (mid : Int) < (e : Int) := by omega
                  go_wp2_with (first | (go_at_call 37; refine Hrc.out.mono ?_; rintro _ w1 ⟨rfl, d1, hz1, S1', hG1⟩; have Hz1 := Kp.mk hz1; have HG1 : Kp (get d1 = rotF (get d) i m e) := ⟨hG1⟩; have HA : Kp (∀ x y z, z - x < b - a → x < y → y < z → z ≤ d.size → Srt (ltOf cf) (rotF (get d) i m e) x y → Srt (ltOf cf) (rotF (get d) i m e) y z → Calls P 33 #[.slice (some ⟨blk, off, none⟩) d.size cap, .int .i64 x, .int .i64 y, .int .i64 z, .func (.func 19) #[] #[]] w1 (SymTo enc k cf w0 blk off d.size (rotF (get d) i m e) x y z)) := ⟨fun x y z g1 g2 g3 g4 g5 g6 => by rw [← hG1] at g5 g6 ⊢; exact HIH.out w1 d1 x y z g1 g2 g3 g4 hz1 S1' g5 g6⟩; have SA : Aside (SWK enc k w0 blk off d1 w1) := S1'; clear hz1 S1' hG1))
                  all_goals (go_end0; exact ⟨rfl, d1, Hz1.out, SA.out, by have h9 := HE.out _ _ (symOK_left HQ.out.2.2.1 HQ.out.2.2.2.1 (by have := HQ.out; omega)) (symOK_left HQ.out.2.2.2.2.1 HQ.out.2.2.2.2.2.1 (by have := HQ.out; omega)); rwa [← HG1.out] at h9⟩)
            · skip
              have x2a : ¬ (a : Int) < (i : Int) := by omega
              by_cases x3 : mid < e ∧ e < b
              · skip
                have x3a : (mid : Int) < (e : Int) := by omega
                have x3b : (e : Int) < (b : Int) := by omega
                go_wp2_with (first | (go_at_call 37; refine Hrc.out.mono ?_; rintro _ w1 ⟨rfl, d1, hz1, S1', hG1⟩; have Hz1 := Kp.mk hz1; have HG1 : Kp (get d1 = rotF (get d) i m e) := ⟨hG1⟩; have HA : Kp (∀ x y z, z - x < b - a → x < y → y < z → z ≤ d.size → Srt (ltOf cf) (rotF (get d) i m e) x y → Srt (ltOf cf) (rotF (get d) i m e) y z → Calls P 33 #[.slice (some ⟨blk, off, none⟩) d.size cap, .int .i64 x, .int .i64 y, .int .i64 z, .func (.func 19) #[] #[]] w1 (SymTo enc k cf w0 blk off d.size (rotF (get d) i m e) x y z)) := ⟨fun x y z g1 g2 g3 g4 g5 g6 => by rw [← hG1] at g5 g6 ⊢; exact HIH.out w1 d1 x y z g1 g2 g3 g4 hz1 S1' g5 g6⟩; have SA : Aside (SWK enc k w0 blk off d1 w1) := S1'; clear hz1 S1' hG1) | (go_at_call_of 33 (Value.int .i64 (mid : Int)); refine (HA.out mid e b HQ.out.2.2.2.2.2.2.2.2 x3.1 x3.2 HQ.out.2.2.2.2.2.2.1 HSr.out.2.2.1 HSr.out.2.2.2).mono ?_; rintro _ w3 ⟨rfl, d3, hz3, S3, hK3⟩))
                all_goals (go_end0; exact ⟨rfl, d3, hz3, S3, HE.out _ _ (symOK_left HQ.out.2.2.1 HQ.out.2.2.2.1 (by have := HQ.out; omega)) hK3⟩)
              · skip
                by_cases x3L : mid < e
                · skip
                  have x3a : (mid : Int) < (e : Int) := by omega
                  have x3b : ¬ (e : Int) < (b : Int) := by omega
                  go_wp2_with (first | (go_at_call 37; refine Hrc.out.mono ?_; rintro _ w1 ⟨rfl, d1, hz1, S1', hG1⟩; have Hz1 := Kp.mk hz1; have HG1 : Kp (get d1 = rotF (get d) i m e) := ⟨hG1⟩; have HA : Kp (∀ x y z, z - x < b - a → x < y → y < z → z ≤ d.size → Srt (ltOf cf) (rotF (get d) i m e) x y → Srt (ltOf cf) (rotF (get d) i m e) y z → Calls P 33 #[.slice (some ⟨blk, off, none⟩) d.size cap, .int .i64 x, .int .i64 y, .int .i64 z, .func (.func 19) #[] #[]] w1 (SymTo enc k cf w0 blk off d.size (rotF (get d) i m e) x y z)) := ⟨fun x y z g1 g2 g3 g4 g5 g6 => by rw [← hG1] at g5 g6 ⊢; exact HIH.out w1 d1 x y z g1 g2 g3 g4 hz1 S1' g5 g6⟩; have SA : Aside (SWK enc k w0 blk off d1 w1) := S1'; clear hz1 S1' hG1))
                  all_goals (go_end0; exact ⟨rfl, d1, Hz1.out, SA.out, by have h9 := HE.out _ _ (symOK_left HQ.out.2.2.1 HQ.out.2.2.2.1 (by have := HQ.out; omega)) (symOK_left HQ.out.2.2.2.2.1 HQ.out.2.2.2.2.2.1 (by have := HQ.out; omega)); rwa [← HG1.out] at h9⟩)
                · skip
                  have x3a : ¬ (mid : Int) < (e : Int) := by omega
                  go_wp2_with (first | (go_at_call 37; refine Hrc.out.mono ?_; rintro _ w1 ⟨rfl, d1, hz1, S1', hG1⟩; have Hz1 := Kp.mk hz1; have HG1 : Kp (get d1 = rotF (get d) i m e) := ⟨hG1⟩; have HA : Kp (∀ x y z, z - x < b - a → x < y → y < z → z ≤ d.size → Srt (ltOf cf) (rotF (get d) i m e) x y → Srt (ltOf cf) (rotF (get d) i m e) y z → Calls P 33 #[.slice (some ⟨blk, off, none⟩) d.size cap, .int .i64 x, .int .i64 y, .int .i64 z, .func (.func 19) #[] #[]] w1 (SymTo enc k cf w0 blk off d.size (rotF (get d) i m e) x y z)) := ⟨fun x y z g1 g2 g3 g4 g5 g6 => by rw [← hG1] at g5 g6 ⊢; exact HIH.out w1 d1 x y z g1 g2 g3 g4 hz1 S1' g5 g6⟩; have SA : Aside (SWK enc k w0 blk off d1 w1) := S1'; clear hz1 S1' hG1))
                  all_goals (go_end0; exact ⟨rfl, d1, Hz1.out, SA.out, by have h9 := HE.out _ _ (symOK_left HQ.out.2.2.1 HQ.out.2.2.2.1 (by have := HQ.out; omega)) (symOK_left HQ.out.2.2.2.2.1 HQ.out.2.2.2.2.2.1 (by have := HQ.out; omega)); rwa [← HG1.out] at h9⟩)
        · skip
          have HG1 : Kp (get d = rotF (get d) i m e) := ⟨(rot_none (by have := HQ.out; omega) (by have := HQ.out; omega) (by have := HQ.out; omega)).symm⟩
          have HA : Kp (∀ x y z, z - x < b - a → x < y → y < z → z ≤ d.size → Srt (ltOf cf) (rotF (get d) i m e) x y → Srt (ltOf cf) (rotF (get d) i m e) y z → Calls P 33 #[.slice (some ⟨blk, off, none⟩) d.size cap, .int .i64 x, .int .i64 y, .int .i64 z, .func (.func 19) #[] #[]] wr (SymTo enc k cf w0 blk off d.size (rotF (get d) i m e) x y z)) := ⟨fun x y z g1 g2 g3 g4 g5 g6 => by rw [← HG1.out] at g5 g6 ⊢; exact HIH.out wr d x y z g1 g2 g3 g4 rfl S1.out g5 g6⟩
          have SA := S1
          by_cases x1L : i < m
          · skip
            have x1a : (i : Int) < (m : Int) := by omega
            have x1b : ¬ (m : Int) < (e : Int) := by omega
            by_cases x2 : a < i ∧ i < mid
            · skip
              have x2a : (a : Int) < (i : Int) := by omega
              have x2b : (i : Int) < (mid : Int) := by omega
              by_cases x3 : mid < e ∧ e < b
              · skip
                have x3a : (mid : Int) < (e : Int) := by omega
                have x3b : (e : Int) < (b : Int) := by omega
                go_wp2_with (first | (go_at_call_of 33 (Value.int .i64 (a : Int)); refine (HA.out a i mid HQ.out.2.2.2.2.2.2.2.1 x2.1 x2.2 (by have := HQ.out; omega) HSr.out.1 HSr.out.2.1).mono ?_; rintro _ w2 ⟨rfl, d2, hz2, S2, hK2⟩; have Hz2 := Kp.mk hz2; have SB : Aside (SWK enc k w0 blk off d2 w2) := S2; have HK2 := Kp.mk hK2; clear hz2 S2 hK2) | (go_at_call_of 33 (Value.int .i64 (mid : Int)); refine (HIH.out w2 d2 mid e b HQ.out.2.2.2.2.2.2.2.2 x3.1 x3.2 HQ.out.2.2.2.2.2.2.1 Hz2.out SB.out (srt_ext (fun k hk _ => HK2.out.2 k (.inr hk)) HSr.out.2.2.1) (srt_ext (fun k hk _ => HK2.out.2 k (.inr (by have := HQ.out; omega))) HSr.out.2.2.2)).mono ?_; rintro _ w3 ⟨rfl, d3, hz3, S3, hK3⟩))
                all_goals (go_end0; exact ⟨rfl, d3, hz3, S3, HE.out _ _ HK2.out hK3⟩)
              · skip
                by_cases x3L : mid < e
                · skip
                  have x3a : (mid : Int) < (e : Int) := by omega
                  have x3b : ¬ (e : Int) < (b : Int) := by omega
                  go_wp2_with (first | (go_at_call_of 33 (Value.int .i64 (a : Int)); refine (HA.out a i mid HQ.out.2.2.2.2.2.2.2.1 x2.1 x2.2 (by have := HQ.out; omega) HSr.out.1 HSr.out.2.1).mono ?_; rintro _ w2 ⟨rfl, d2, hz2, S2, hK2⟩; have Hz2 := Kp.mk hz2; have SB : Aside (SWK enc k w0 blk off d2 w2) := S2; have HK2 := Kp.mk hK2; clear hz2 S2 hK2))
                  all_goals (go_end0; exact ⟨rfl, d2, Hz2.out, SB.out, HE.out _ _ HK2.out (symOK_left HQ.out.2.2.2.2.1 HQ.out.2.2.2.2.2.1 (by have := HQ.out; omega))⟩)
                · skip
                  have x3a : ¬ (mid : Int) < (e : Int) := by omega
                  go_wp2_with (first | (go_at_call_of 33 (Value.int .i64 (a : Int)); refine (HA.out a i mid HQ.out.2.2.2.2.2.2.2.1 x2.1 x2.2 (by have := HQ.out; omega) HSr.out.1 HSr.out.2.1).mono ?_; rintro _ w2 ⟨rfl, d2, hz2, S2, hK2⟩; have Hz2 := Kp.mk hz2; have SB : Aside (SWK enc k w0 blk off d2 w2) := S2; have HK2 := Kp.mk hK2; clear hz2 S2 hK2))
                  all_goals (go_end0; exact ⟨rfl, d2, Hz2.out, SB.out, HE.out _ _ HK2.out (symOK_left HQ.out.2.2.2.2.1 HQ.out.2.2.2.2.2.1 (by have := HQ.out; omega))⟩)
            · skip
              by_cases x2L : a < i
              · skip
                have x2a : (a : Int) < (i : Int) := by omega
                have x2b : ¬ (i : Int) < (mid : Int) := by omega
                by_cases x3 : mid < e ∧ e < b
                · skip
                  have x3a : (mid : Int) < (e : Int) := by omega
                  have x3b : (e : Int) < (b : Int) := by omega
                  go_wp2_with (first | (go_at_call_of 33 (Value.int .i64 (mid : Int)); refine (HA.out mid e b HQ.out.2.2.2.2.2.2.2.2 x3.1 x3.2 HQ.out.2.2.2.2.2.2.1 HSr.out.2.2.1 HSr.out.2.2.2).mono ?_; rintro _ w3 ⟨rfl, d3, hz3, S3, hK3⟩))
                  all_goals (go_end0; exact ⟨rfl, d3, hz3, S3, HE.out _ _ (symOK_left HQ.out.2.2.1 HQ.out.2.2.2.1 (by have := HQ.out; omega)) hK3⟩)
                · skip
                  by_cases x3L : mid < e
                  · skip
                    have x3a : (mid : Int) < (e : Int) := by omega
                    have x3b : ¬ (e : Int) < (b : Int) := by omega
                    go_wp2_with (fail)
                    all_goals (go_end0; exact ⟨rfl, d, rfl, SA.out, by have h9 := HE.out _ _ (symOK_left HQ.out.2.2.1 HQ.out.2.2.2.1 (by have := HQ.out; omega)) (symOK_left HQ.out.2.2.2.2.1 HQ.out.2.2.2.2.2.1 (by have := HQ.out; omega)); rwa [← HG1.out] at h9⟩)
                  · skip
                    have x3a : ¬ (mid : Int) < (e : Int) := by omega
                    go_wp2_with (fail)
                    all_goals (go_end0; exact ⟨rfl, d, rfl, SA.out, by have h9 := HE.out _ _ (symOK_left HQ.out.2.2.1 HQ.out.2.2.2.1 (by have := HQ.out; omega)) (symOK_left HQ.out.2.2.2.2.1 HQ.out.2.2.2.2.2.1 (by have := HQ.out; omega)); rwa [← HG1.out] at h9⟩)
              · skip
                have x2a : ¬ (a : Int) < (i : Int) := by omega
                by_cases x3 : mid < e ∧ e < b
                · skip
                  have x3a : (mid : Int) < (e : Int) := by omega
                  have x3b : (e : Int) < (b : Int) := by omega
                  go_wp2_with (first | (go_at_call_of 33 (Value.int .i64 (mid : Int)); refine (HA.out mid e b HQ.out.2.2.2.2.2.2.2.2 x3.1 x3.2 HQ.out.2.2.2.2.2.2.1 HSr.out.2.2.1 HSr.out.2.2.2).mono ?_; rintro _ w3 ⟨rfl, d3, hz3, S3, hK3⟩))
                  all_goals (go_end0; exact ⟨rfl, d3, hz3, S3, HE.out _ _ (symOK_left HQ.out.2.2.1 HQ.out.2.2.2.1 (by have := HQ.out; omega)) hK3⟩)
                · skip
                  by_cases x3L : mid < e
                  · skip
                    have x3a : (mid : Int) < (e : Int) := by omega
                    have x3b : ¬ (e : Int) < (b : Int) := by omega
                    go_wp2_with (fail)
                    all_goals (go_end0; exact ⟨rfl, d, rfl, SA.out, by have h9 := HE.out _ _ (symOK_left HQ.out.2.2.1 HQ.out.2.2.2.1 (by have := HQ.out; omega)) (symOK_left HQ.out.2.2.2.2.1 HQ.out.2.2.2.2.2.1 (by have := HQ.out; omega)); rwa [← HG1.out] at h9⟩)
                  · skip
                    have x3a : ¬ (mid : Int) < (e : Int) := by omega
                    go_wp2_with (fail)
                    all_goals (go_end0; exact ⟨rfl, d, rfl, SA.out, by have h9 := HE.out _ _ (symOK_left HQ.out.2.2.1 HQ.out.2.2.2.1 (by have := HQ.out; omega)) (symOK_left HQ.out.2.2.2.2.1 HQ.out.2.2.2.2.2.1 (by have := HQ.out; omega)); rwa [← HG1.out] at h9⟩)
          · skip
            have x1a : ¬ (i : Int) < (m : Int) := by omega
            by_cases x2 : a < i ∧ i < mid
            · skip
              have x2a : (a : Int) < (i : Int) := by omega
              have x2b : (i : Int) < (mid : Int) := by omega
              by_cases x3 : mid < e ∧ e < b
              · skip
                have x3a : (mid : Int) < (e : Int) := by omega
                have x3b : (e : Int) < (b : Int) := by omega
                go_wp2_with (first | (go_at_call_of 33 (Value.int .i64 (a : Int)); refine (HA.out a i mid HQ.out.2.2.2.2.2.2.2.1 x2.1 x2.2 (by have := HQ.out; omega) HSr.out.1 HSr.out.2.1).mono ?_; rintro _ w2 ⟨rfl, d2, hz2, S2, hK2⟩; have Hz2 := Kp.mk hz2; have SB : Aside (SWK enc k w0 blk off d2 w2) := S2; have HK2 := Kp.mk hK2; clear hz2 S2 hK2) | (go_at_call_of 33 (Value.int .i64 (mid : Int)); refine (HIH.out w2 d2 mid e b HQ.out.2.2.2.2.2.2.2.2 x3.1 x3.2 HQ.out.2.2.2.2.2.2.1 Hz2.out SB.out (srt_ext (fun k hk _ => HK2.out.2 k (.inr hk)) HSr.out.2.2.1) (srt_ext (fun k hk _ => HK2.out.2 k (.inr (by have := HQ.out; omega))) HSr.out.2.2.2)).mono ?_; rintro _ w3 ⟨rfl, d3, hz3, S3, hK3⟩))
                all_goals (go_end0; exact ⟨rfl, d3, hz3, S3, HE.out _ _ HK2.out hK3⟩)
              · skip
                by_cases x3L : mid < e
                · skip
                  have x3a : (mid : Int) < (e : Int) := by omega
                  have x3b : ¬ (e : Int) < (b : Int) := by omega
                  go_wp2_with (first | (go_at_call_of 33 (Value.int .i64 (a : Int)); refine (HA.out a i mid HQ.out.2.2.2.2.2.2.2.1 x2.1 x2.2 (by have := HQ.out; omega) HSr.out.1 HSr.out.2.1).mono ?_; rintro _ w2 ⟨rfl, d2, hz2, S2, hK2⟩; have Hz2 := Kp.mk hz2; have SB : Aside (SWK enc k w0 blk off d2 w2) := S2; have HK2 := Kp.mk hK2; clear hz2 S2 hK2))
                  all_goals (go_end0; exact ⟨rfl, d2, Hz2.out, SB.out, HE.out _ _ HK2.out (symOK_left HQ.out.2.2.2.2.1 HQ.out.2.2.2.2.2.1 (by have := HQ.out; omega))⟩)
                · skip
                  have x3a : ¬ (mid : Int) < (e : Int) := by omega
                  go_wp2_with (first | (go_at_call_of 33 (Value.int .i64 (a : Int)); refine (HA.out a i mid HQ.out.2.2.2.2.2.2.2.1 x2.1 x2.2 (by have := HQ.out; omega) HSr.out.1 HSr.out.2.1).mono ?_; rintro _ w2 ⟨rfl, d2, hz2, S2, hK2⟩; have Hz2 := Kp.mk hz2; have SB : Aside (SWK enc k w0 blk off d2 w2) := S2; have HK2 := Kp.mk hK2; clear hz2 S2 hK2))
                  all_goals (go_end0; exact ⟨rfl, d2, Hz2.out, SB.out, HE.out _ _ HK2.out (symOK_left HQ.out.2.2.2.2.1 HQ.out.2.2.2.2.2.1 (by have := HQ.out; omega))⟩)
            · skip
              by_cases x2L : a < i
              · skip
                have x2a : (a : Int) < (i : Int) := by omega
                have x2b : ¬ (i : Int) < (mid : Int) := by omega
                by_cases x3 : mid < e ∧ e < b
                · skip
                  have x3a : (mid : Int) < (e : Int) := by omega
                  have x3b : (e : Int) < (b : Int) := by omega
                  go_wp2_with (first | (go_at_call_of 33 (Value.int .i64 (mid : Int)); refine (HA.out mid e b HQ.out.2.2.2.2.2.2.2.2 x3.1 x3.2 HQ.out.2.2.2.2.2.2.1 HSr.out.2.2.1 HSr.out.2.2.2).mono ?_; rintro _ w3 ⟨rfl, d3, hz3, S3, hK3⟩))
                  all_goals (go_end0; exact ⟨rfl, d3, hz3, S3, HE.out _ _ (symOK_left HQ.out.2.2.1 HQ.out.2.2.2.1 (by have := HQ.out; omega)) hK3⟩)
                · skip
                  by_cases x3L : mid < e
                  · skip
                    have x3a : (mid : Int) < (e : Int) := by omega
                    have x3b : ¬ (e : Int) < (b : Int) := by omega
                    go_wp2_with (fail)
                    all_goals (go_end0; exact ⟨rfl, d, rfl, SA.out, by have h9 := HE.out _ _ (symOK_left HQ.out.2.2.1 HQ.out.2.2.2.1 (by have := HQ.out; omega)) (symOK_left HQ.out.2.2.2.2.1 HQ.out.2.2.2.2.2.1 (by have := HQ.out; omega)); rwa [← HG1.out] at h9⟩)
                  · skip
                    have x3a : ¬ (mid : Int) < (e : Int) := by omega
                    go_wp2_with (fail)
                    all_goals (go_end0; exact ⟨rfl, d, rfl, SA.out, by have h9 := HE.out _ _ (symOK_left HQ.out.2.2.1 HQ.out.2.2.2.1 (by have := HQ.out; omega)) (symOK_left HQ.out.2.2.2.2.1 HQ.out.2.2.2.2.2.1 (by have := HQ.out; omega)); rwa [← HG1.out] at h9⟩)
              · skip
                have x2a : ¬ (a : Int) < (i : Int) := by omega
                by_cases x3 : mid < e ∧ e < b
                · skip
                  have x3a : (mid : Int) < (e : Int) := by omega
                  have x3b : (e : Int) < (b : Int) := by omega
                  go_wp2_with (first | (go_at_call_of 33 (Value.int .i64 (mid : Int)); refine (HA.out mid e b HQ.out.2.2.2.2.2.2.2.2 x3.1 x3.2 HQ.out.2.2.2.2.2.2.1 HSr.out.2.2.1 HSr.out.2.2.2).mono ?_; rintro _ w3 ⟨rfl, d3, hz3, S3, hK3⟩))
                  all_goals (go_end0; exact ⟨rfl, d3, hz3, S3, HE.out _ _ (symOK_left HQ.out.2.2.1 HQ.out.2.2.2.1 (by have := HQ.out; omega)) hK3⟩)
                · skip
                  by_cases x3L : mid < e
                  · skip
                    have x3a : (mid : Int) < (e : Int) := by omega
                    have x3b : ¬ (e : Int) < (b : Int) := by omega
                    go_wp2_with (fail)
                    all_goals (go_end0; exact ⟨rfl, d, rfl, SA.out, by have h9 := HE.out _ _ (symOK_left HQ.out.2.2.1 HQ.out.2.2.2.1 (by have := HQ.out; omega)) (symOK_left HQ.out.2.2.2.2.1 HQ.out.2.2.2.2.2.1 (by have := HQ.out; omega)); rwa [← HG1.out] at h9⟩)
                  · skip
                    have x3a : ¬ (mid : Int) < (e : Int) := by omega
                    go_wp2_with (fail)
                    all_goals (go_end0; exact ⟨rfl, d, rfl, SA.out, by have h9 := HE.out _ _ (symOK_left HQ.out.2.2.1 HQ.out.2.2.2.1 (by have := HQ.out; omega)) (symOK_left HQ.out.2.2.2.2.1 HQ.out.2.2.2.2.2.1 (by have := HQ.out; omega)); rwa [← HG1.out] at h9⟩)
  · skip
    go_enter Try.func33, Try.ntmps33
    generalize Try.prog = P at *
    go_wp2_with fail
    go_loopw [20, 21] (fun s t wr => ∃ (i j : Nat), s = .int .i64 i ∧ t = .int .i64 j ∧ a ≤ i ∧ i ≤ j ∧ j ≤ m ∧ Aside (SWK enc k w0 blk off d wr) ∧ Kp (a < i → ltOf cf (get d (n - i)) (get d (i - 1)) = false) ∧ Kp (j < m → ltOf cf (get d (p - j)) (get d j) = true)) (fun s t _ => (intOf t).toNat - (intOf s).toNat)
    case atStart => exact ⟨a, m, rfl, rfl, Nat.le_refl _, by have := HM.out; omega, Nat.le_refl _, S0, ⟨fun h => by omega⟩, ⟨fun h => by omega⟩⟩
    case round =>
      clear S0
      obtain ⟨i, j, rfl, rfl, hmi, hij, hjb, S1, HI, HJ⟩ := hrel
      by_cases hlt : i < j
      · have hltz : (i : Int) < (j : Int) := by omega
        obtain ⟨h, hh⟩ : ∃ h : Nat, ((i : Int) + (j : Int)) / 2 = h := ⟨(i + j) / 2, by omega⟩
        have hih : i ≤ h := by omega
        have hhj : h < j := by omega
        obtain ⟨x, hx⟩ : ∃ x, p = x + h := ⟨p - h, by have := HM.out; omega⟩
        have rx : IntKind.i64.wrap ((p : Int) - (h : Int)) = (x : Int) := by have := HM.out; rw [IntKind.wrap_i64]; omega
        have hxs : x < d.size := by have := HM.out; omega
        have HX : Kp (x = p - h ∧ x = n - (h + 1)) := ⟨by omega, by have := HM.out; omega⟩
        clear hx
        go_wp2_with fail
        have e1 : ((x : Int)).toNat = x := by omega
        have p1 : (0 : Int) ≤ (x : Int) := by omega
        have b1 : (x : Int) < (d.size : Int) := by omega
        have e2 : ((h : Int)).toNat = h := by omega
        have p2 : (0 : Int) ≤ (h : Int) := by omega
        have b2 : (h : Int) < (d.size : Int) := by have := HM.out; omega
        have lj := S1.out.ld R hs.symm P x hxs
        have lp := S1.out.ld R hs.symm P h (by omega)
        have hcg := fun (n' : Nat) (os' : Array Obj) => S1.out.cmp HC.out hs.symm d[x]! d[h]! n' os'
        simp only [Array.append_empty] at hcg
        have Hd : Kp (ltOf cf (get d x) (get d h) = decide (cf d[x]! d[h]! < 0)) := ⟨rfl⟩
        have SG : Kp (∀ n os, SWK enc k w0 blk off d (grow (wr.drewN n) os)) := ⟨fun n os => S1.out.grown n os⟩
        generalize enc d[x]! = cX at lj hcg
        generalize enc d[h]! = cH at lp hcg
        obtain ⟨z, hz⟩ : ∃ z, z = cf d[x]! d[h]! := ⟨_, rfl⟩
        rw [← hz] at hcg Hd
        clear hz S1
        by_cases hneg : z < 0
        · rw [decide_eq_true hneg] at Hd
          go_quiet_grown (first | (go_at_call 19; refine Calls.grown_of (hcg _ _)))
          clear lj lp hcg
          go_wp2_with fail
          go_roundw
          case rel => exact ⟨i, h, rfl, by first | rfl | go_num, by omega, by omega, by omega, SG.out nq osq, HI, ⟨fun _ => by rw [← HX.out.1]; exact Hd.out⟩⟩
          case measure => simp [intOf]; omega
        · rw [decide_eq_false hneg] at Hd
          go_quiet_grown (first | (go_at_call 19; refine Calls.grown_of (hcg _ _)))
          clear lj lp hcg
          go_wp2_with fail
          go_roundw
          case rel => exact ⟨h + 1, j, by first | rfl | go_num, rfl, by omega, by omega, hjb, SG.out nq osq, ⟨fun _ => by rw [Nat.add_sub_cancel, ← HX.out.2]; exact Hd.out⟩, HJ⟩
          case measure => simp [intOf]; omega
      · obtain rfl : i = j := by omega
        obtain ⟨e, he⟩ : ∃ e, n = e + i := ⟨n - i, by have := HM.out; omega⟩
        have q1 : a ≤ i := by have := HM.out; omega
        have q2 : i ≤ m := by have := HM.out; omega
        have q3 : m ≤ e := by have := HM.out; omega
        have q4 : e ≤ b := by have := HM.out; omega
        have q5 : mid = i + (e - m) := by have := HM.out; omega
        have q6 : i ≤ mid := by omega
        have q7 : mid ≤ e := by omega
        have qs : mid - a < b - a ∧ b - mid < b - a := by have := HM.out; omega
        have HCut := Kp.mk (cut_all HT.out HU.out HV.out q1 q2 q3 q4 (fun x1 x2 => by have h9 := HI.out (by have := HM.out; omega); rwa [show n - i = e by omega] at h9) (fun x1 x2 => by have h9 := HJ.out (by have := HM.out; omega); rwa [show p - i = e - 1 by have := HM.out; omega] at h9))
        have HSr := Kp.mk (rot_srt HU.out HV.out q1 q2 q3 q4 q5)
        have r6 : IntKind.i64.wrap ((n : Int) - (i : Int)) = (e : Int) := by have := HM.out; rw [IntKind.wrap_i64]; omega
        have HE : Kp (∀ F2 F3 : Nat → α, SymOK (ltOf cf) (rotF (get d) i m e) F2 a i mid → SymOK (ltOf cf) F2 F3 mid e b → SymOK (ltOf cf) (get d) F3 a m b) := ⟨fun F2 F3 k2 k3 => symOK_join q1 q2 q3 q4 q5 HCut.out k2 k3⟩
        have HQ : Kp (i ≤ m ∧ m ≤ e ∧ a ≤ i ∧ i ≤ mid ∧ mid ≤ e ∧ e ≤ b ∧ b ≤ d.size ∧ mid - a < b - a ∧ b - mid < b - a) := ⟨q2, q3, q1, q6, q7, q4, hb, qs.1, qs.2⟩
        clear HI HJ hlt hij HC HT HU HV HCut he hmi hjb q1 q2 q3 q4 q5 q6 q7 qs
        by_cases x1 : i < m ∧ m < e
        · skip
          have x1a : (i : Int) < (m : Int) := by omega
          have x1b : (m : Int) < (e : Int) := by omega
          have Hrc := Kp.mk (HRo.out _ d i m e x1.1 x1.2 (by have := HQ.out; omega) rfl S1.out)
          by_cases x2 : a < i ∧ i < mid
          · skip
            have x2a : (a : Int) < (i : Int) := by omega
            have x2b : (i : Int) < (mid : Int) := by omega
            by_cases x3 : mid < e ∧ e < b
            · skip
              have x3a : (mid : Int) < (e : Int) := by omega
              have x3b : (e : Int) < (b : Int) := by omega
              go_wp2_with (first | (go_at_call 37; refine Hrc.out.mono ?_; rintro _ w1 ⟨rfl, d1, hz1, S1', hG1⟩; have Hz1 := Kp.mk hz1; have HG1 : Kp (get d1 = rotF (get d) i m e) := ⟨hG1⟩; have HA : Kp (∀ x y z, z - x < b - a → x < y → y < z → z ≤ d.size → Srt (ltOf cf) (rotF (get d) i m e) x y → Srt (ltOf cf) (rotF (get d) i m e) y z → Calls P 33 #[.slice (some ⟨blk, off, none⟩) d.size cap, .int .i64 x, .int .i64 y, .int .i64 z, .func (.func 19) #[] #[]] w1 (SymTo enc k cf w0 blk off d.size (rotF (get d) i m e) x y z)) := ⟨fun x y z g1 g2 g3 g4 g5 g6 => by rw [← hG1] at g5 g6 ⊢; exact HIH.out w1 d1 x y z g1 g2 g3 g4 hz1 S1' g5 g6⟩; have SA : Aside (SWK enc k w0 blk off d1 w1) := S1'; clear hz1 S1' hG1) | (go_at_call_of 33 (Value.int .i64 (a : Int)); refine (HA.out a i mid HQ.out.2.2.2.2.2.2.2.1 x2.1 x2.2 (by have := HQ.out; omega) HSr.out.1 HSr.out.2.1).mono ?_; rintro _ w2 ⟨rfl, d2, hz2, S2, hK2⟩; have Hz2 := Kp.mk hz2; have SB : Aside (SWK enc k w0 blk off d2 w2) := S2; have HK2 := Kp.mk hK2; clear hz2 S2 hK2) | (go_at_call_of 33 (Value.int .i64 (mid : Int)); refine (HIH.out w2 d2 mid e b HQ.out.2.2.2.2.2.2.2.2 x3.1 x3.2 HQ.out.2.2.2.2.2.2.1 Hz2.out SB.out (srt_ext (fun k hk _ => HK2.out.2 k (.inr hk)) HSr.out.2.2.1) (srt_ext (fun k hk _ => HK2.out.2 k (.inr (by have := HQ.out; omega))) HSr.out.2.2.2)).mono ?_; rintro _ w3 ⟨rfl, d3, hz3, S3, hK3⟩))
              all_goals (go_end0; exact ⟨rfl, d3, hz3, S3, HE.out _ _ HK2.out hK3⟩)
            · skip
              by_cases x3L : mid < e
              · skip
                have x3a : (mid : Int) < (e : Int) := by omega
                have x3b : ¬ (e : Int) < (b : Int) := by omega
                go_wp2_with (first | (go_at_call 37; refine Hrc.out.mono ?_; rintro _ w1 ⟨rfl, d1, hz1, S1', hG1⟩; have Hz1 := Kp.mk hz1; have HG1 : Kp (get d1 = rotF (get d) i m e) := ⟨hG1⟩; have HA : Kp (∀ x y z, z - x < b - a → x < y → y < z → z ≤ d.size → Srt (ltOf cf) (rotF (get d) i m e) x y → Srt (ltOf cf) (rotF (get d) i m e) y z → Calls P 33 #[.slice (some ⟨blk, off, none⟩) d.size cap, .int .i64 x, .int .i64 y, .int .i64 z, .func (.func 19) #[] #[]] w1 (SymTo enc k cf w0 blk off d.size (rotF (get d) i m e) x y z)) := ⟨fun x y z g1 g2 g3 g4 g5 g6 => by rw [← hG1] at g5 g6 ⊢; exact HIH.out w1 d1 x y z g1 g2 g3 g4 hz1 S1' g5 g6⟩; have SA : Aside (SWK enc k w0 blk off d1 w1) := S1'; clear hz1 S1' hG1) | (go_at_call_of 33 (Value.int .i64 (a : Int)); refine (HA.out a i mid HQ.out.2.2.2.2.2.2.2.1 x2.1 x2.2 (by have := HQ.out; omega) HSr.out.1 HSr.out.2.1).mono ?_; rintro _ w2 ⟨rfl, d2, hz2, S2, hK2⟩; have Hz2 := Kp.mk hz2; have SB : Aside (SWK enc k w0 blk off d2 w2) := S2; have HK2 := Kp.mk hK2; clear hz2 S2 hK2))
                all_goals (go_end0; exact ⟨rfl, d2, Hz2.out, SB.out, HE.out _ _ HK2.out (symOK_left HQ.out.2.2.2.2.1 HQ.out.2.2.2.2.2.1 (by have := HQ.out; omega))⟩)
              · skip
                have x3a : ¬ (mid : Int) < (e : Int) := by omega
                go_wp2_with (first | (go_at_call 37; refine Hrc.out.mono ?_; rintro _ w1 ⟨rfl, d1, hz1, S1', hG1⟩; have Hz1 := Kp.mk hz1; have HG1 : Kp (get d1 = rotF (get d) i m e) := ⟨hG1⟩; have HA : Kp (∀ x y z, z - x < b - a → x < y → y < z → z ≤ d.size → Srt (ltOf cf) (rotF (get d) i m e) x y → Srt (ltOf cf) (rotF (get d) i m e) y z → Calls P 33 #[.slice (some ⟨blk, off, none⟩) d.size cap, .int .i64 x, .int .i64 y, .int .i64 z, .func (.func 19) #[] #[]] w1 (SymTo enc k cf w0 blk off d.size (rotF (get d) i m e) x y z)) := ⟨fun x y z g1 g2 g3 g4 g5 g6 => by rw [← hG1] at g5 g6 ⊢; exact HIH.out w1 d1 x y z g1 g2 g3 g4 hz1 S1' g5 g6⟩; have SA : Aside (SWK enc k w0 blk off d1 w1) := S1'; clear hz1 S1' hG1) | (go_at_call_of 33 (Value.int .i64 (a : Int)); refine (HA.out a i mid HQ.out.2.2.2.2.2.2.2.1 x2.1 x2.2 (by have := HQ.out; omega) HSr.out.1 HSr.out.2.1).mono ?_; rintro _ w2 ⟨rfl, d2, hz2, S2, hK2⟩; have Hz2 := Kp.mk hz2; have SB : Aside (SWK enc k w0 blk off d2 w2) := S2; have HK2 := Kp.mk hK2; clear hz2 S2 hK2))
                all_goals (go_end0; exact ⟨rfl, d2, Hz2.out, SB.out, HE.out _ _ HK2.out (symOK_left HQ.out.2.2.2.2.1 HQ.out.2.2.2.2.2.1 (by have := HQ.out; omega))⟩)
          · skip
            by_cases x2L : a < i
            · skip
              have x2a : (a : Int) < (i : Int) := by omega
              have x2b : ¬ (i : Int) < (mid : Int) := by omega
              by_cases x3 : mid < e ∧ e < b
              · skip
                have x3a : (mid : Int) < (e : Int) := by omega
                have x3b : (e : Int) < (b : Int) := by omega
                go_wp2_with (first | (go_at_call 37; refine Hrc.out.mono ?_; rintro _ w1 ⟨rfl, d1, hz1, S1', hG1⟩; have Hz1 := Kp.mk hz1; have HG1 : Kp (get d1 = rotF (get d) i m e) := ⟨hG1⟩; have HA : Kp (∀ x y z, z - x < b - a → x < y → y < z → z ≤ d.size → Srt (ltOf cf) (rotF (get d) i m e) x y → Srt (ltOf cf) (rotF (get d) i m e) y z → Calls P 33 #[.slice (some ⟨blk, off, none⟩) d.size cap, .int .i64 x, .int .i64 y, .int .i64 z, .func (.func 19) #[] #[]] w1 (SymTo enc k cf w0 blk off d.size (rotF (get d) i m e) x y z)) := ⟨fun x y z g1 g2 g3 g4 g5 g6 => by rw [← hG1] at g5 g6 ⊢; exact HIH.out w1 d1 x y z g1 g2 g3 g4 hz1 S1' g5 g6⟩; have SA : Aside (SWK enc k w0 blk off d1 w1) := S1'; clear hz1 S1' hG1) | (go_at_call_of 33 (Value.int .i64 (mid : Int)); refine (HA.out mid e b HQ.out.2.2.2.2.2.2.2.2 x3.1 x3.2 HQ.out.2.2.2.2.2.2.1 HSr.out.2.2.1 HSr.out.2.2.2).mono ?_; rintro _ w3 ⟨rfl, d3, hz3, S3, hK3⟩))
                all_goals (go_end0; exact ⟨rfl, d3, hz3, S3, HE.out _ _ (symOK_left HQ.out.2.2.1 HQ.out.2.2.2.1 (by have := HQ.out; omega)) hK3⟩)
              · skip
                by_cases x3L : mid < e
                · skip
                  have x3a : (mid : Int) < (e : Int) := by omega
                  have x3b : ¬ (e : Int) < (b : Int) := by omega
                  go_wp2_with (first | (go_at_call 37; refine Hrc.out.mono ?_; rintro _ w1 ⟨rfl, d1, hz1, S1', hG1⟩; have Hz1 := Kp.mk hz1; have HG1 : Kp (get d1 = rotF (get d) i m e) := ⟨hG1⟩; have HA : Kp (∀ x y z, z - x < b - a → x < y → y < z → z ≤ d.size → Srt (ltOf cf) (rotF (get d) i m e) x y → Srt (ltOf cf) (rotF (get d) i m e) y z → Calls P 33 #[.slice (some ⟨blk, off, none⟩) d.size cap, .int .i64 x, .int .i64 y, .int .i64 z, .func (.func 19) #[] #[]] w1 (SymTo enc k cf w0 blk off d.size (rotF (get d) i m e) x y z)) := ⟨fun x y z g1 g2 g3 g4 g5 g6 => by rw [← hG1] at g5 g6 ⊢; exact HIH.out w1 d1 x y z g1 g2 g3 g4 hz1 S1' g5 g6⟩; have SA : Aside (SWK enc k w0 blk off d1 w1) := S1'; clear hz1 S1' hG1))
                  all_goals (go_end0; exact ⟨rfl, d1, Hz1.out, SA.out, by have h9 := HE.out _ _ (symOK_left HQ.out.2.2.1 HQ.out.2.2.2.1 (by have := HQ.out; omega)) (symOK_left HQ.out.2.2.2.2.1 HQ.out.2.2.2.2.2.1 (by have := HQ.out; omega)); rwa [← HG1.out] at h9⟩)
                · skip
                  have x3a : ¬ (mid : Int) < (e : Int) := by omega
                  go_wp2_with (first | (go_at_call 37; refine Hrc.out.mono ?_; rintro _ w1 ⟨rfl, d1, hz1, S1', hG1⟩; have Hz1 := Kp.mk hz1; have HG1 : Kp (get d1 = rotF (get d) i m e) := ⟨hG1⟩; have HA : Kp (∀ x y z, z - x < b - a → x < y → y < z → z ≤ d.size → Srt (ltOf cf) (rotF (get d) i m e) x y → Srt (ltOf cf) (rotF (get d) i m e) y z → Calls P 33 #[.slice (some ⟨blk, off, none⟩) d.size cap, .int .i64 x, .int .i64 y, .int .i64 z, .func (.func 19) #[] #[]] w1 (SymTo enc k cf w0 blk off d.size (rotF (get d) i m e) x y z)) := ⟨fun x y z g1 g2 g3 g4 g5 g6 => by rw [← hG1] at g5 g6 ⊢; exact HIH.out w1 d1 x y z g1 g2 g3 g4 hz1 S1' g5 g6⟩; have SA : Aside (SWK enc k w0 blk off d1 w1) := S1'; clear hz1 S1' hG1))
                  all_goals (go_end0; exact ⟨rfl, d1, Hz1.out, SA.out, by have h9 := HE.out _ _ (symOK_left HQ.out.2.2.1 HQ.out.2.2.2.1 (by have := HQ.out; omega)) (symOK_left HQ.out.2.2.2.2.1 HQ.out.2.2.2.2.2.1 (by have := HQ.out; omega)); rwa [← HG1.out] at h9⟩)
            · skip
              have x2a : ¬ (a : Int) < (i : Int) := by omega
              by_cases x3 : mid < e ∧ e < b
              · skip
                have x3a : (mid : Int) < (e : Int) := by omega
                have x3b : (e : Int) < (b : Int) := by omega
                go_wp2_with (first | (go_at_call 37; refine Hrc.out.mono ?_; rintro _ w1 ⟨rfl, d1, hz1, S1', hG1⟩; have Hz1 := Kp.mk hz1; have HG1 : Kp (get d1 = rotF (get d) i m e) := ⟨hG1⟩; have HA : Kp (∀ x y z, z - x < b - a → x < y → y < z → z ≤ d.size → Srt (ltOf cf) (rotF (get d) i m e) x y → Srt (ltOf cf) (rotF (get d) i m e) y z → Calls P 33 #[.slice (some ⟨blk, off, none⟩) d.size cap, .int .i64 x, .int .i64 y, .int .i64 z, .func (.func 19) #[] #[]] w1 (SymTo enc k cf w0 blk off d.size (rotF (get d) i m e) x y z)) := ⟨fun x y z g1 g2 g3 g4 g5 g6 => by rw [← hG1] at g5 g6 ⊢; exact HIH.out w1 d1 x y z g1 g2 g3 g4 hz1 S1' g5 g6⟩; have SA : Aside (SWK enc k w0 blk off d1 w1) := S1'; clear hz1 S1' hG1) | (go_at_call_of 33 (Value.int .i64 (mid : Int)); refine (HA.out mid e b HQ.out.2.2.2.2.2.2.2.2 x3.1 x3.2 HQ.out.2.2.2.2.2.2.1 HSr.out.2.2.1 HSr.out.2.2.2).mono ?_; rintro _ w3 ⟨rfl, d3, hz3, S3, hK3⟩))
                all_goals (go_end0; exact ⟨rfl, d3, hz3, S3, HE.out _ _ (symOK_left HQ.out.2.2.1 HQ.out.2.2.2.1 (by have := HQ.out; omega)) hK3⟩)
              · skip
                by_cases x3L : mid < e
                · skip
                  have x3a : (mid : Int) < (e : Int) := by omega
                  have x3b : ¬ (e : Int) < (b : Int) := by omega
                  go_wp2_with (first | (go_at_call 37; refine Hrc.out.mono ?_; rintro _ w1 ⟨rfl, d1, hz1, S1', hG1⟩; have Hz1 := Kp.mk hz1; have HG1 : Kp (get d1 = rotF (get d) i m e) := ⟨hG1⟩; have HA : Kp (∀ x y z, z - x < b - a → x < y → y < z → z ≤ d.size → Srt (ltOf cf) (rotF (get d) i m e) x y → Srt (ltOf cf) (rotF (get d) i m e) y z → Calls P 33 #[.slice (some ⟨blk, off, none⟩) d.size cap, .int .i64 x, .int .i64 y, .int .i64 z, .func (.func 19) #[] #[]] w1 (SymTo enc k cf w0 blk off d.size (rotF (get d) i m e) x y z)) := ⟨fun x y z g1 g2 g3 g4 g5 g6 => by rw [← hG1] at g5 g6 ⊢; exact HIH.out w1 d1 x y z g1 g2 g3 g4 hz1 S1' g5 g6⟩; have SA : Aside (SWK enc k w0 blk off d1 w1) := S1'; clear hz1 S1' hG1))
                  all_goals (go_end0; exact ⟨rfl, d1, Hz1.out, SA.out, by have h9 := HE.out _ _ (symOK_left HQ.out.2.2.1 HQ.out.2.2.2.1 (by have := HQ.out; omega)) (symOK_left HQ.out.2.2.2.2.1 HQ.out.2.2.2.2.2.1 (by have := HQ.out; omega)); rwa [← HG1.out] at h9⟩)
                · skip
                  have x3a : ¬ (mid : Int) < (e : Int) := by omega
                  go_wp2_with (first | (go_at_call 37; refine Hrc.out.mono ?_; rintro _ w1 ⟨rfl, d1, hz1, S1', hG1⟩; have Hz1 := Kp.mk hz1; have HG1 : Kp (get d1 = rotF (get d) i m e) := ⟨hG1⟩; have HA : Kp (∀ x y z, z - x < b - a → x < y → y < z → z ≤ d.size → Srt (ltOf cf) (rotF (get d) i m e) x y → Srt (ltOf cf) (rotF (get d) i m e) y z → Calls P 33 #[.slice (some ⟨blk, off, none⟩) d.size cap, .int .i64 x, .int .i64 y, .int .i64 z, .func (.func 19) #[] #[]] w1 (SymTo enc k cf w0 blk off d.size (rotF (get d) i m e) x y z)) := ⟨fun x y z g1 g2 g3 g4 g5 g6 => by rw [← hG1] at g5 g6 ⊢; exact HIH.out w1 d1 x y z g1 g2 g3 g4 hz1 S1' g5 g6⟩; have SA : Aside (SWK enc k w0 blk off d1 w1) := S1'; clear hz1 S1' hG1))
                  all_goals (go_end0; exact ⟨rfl, d1, Hz1.out, SA.out, by have h9 := HE.out _ _ (symOK_left HQ.out.2.2.1 HQ.out.2.2.2.1 (by have := HQ.out; omega)) (symOK_left HQ.out.2.2.2.2.1 HQ.out.2.2.2.2.2.1 (by have := HQ.out; omega)); rwa [← HG1.out] at h9⟩)
        · skip
          have HG1 : Kp (get d = rotF (get d) i m e) := ⟨(rot_none (by have := HQ.out; omega) (by have := HQ.out; omega) (by have := HQ.out; omega)).symm⟩
          have HA : Kp (∀ x y z, z - x < b - a → x < y → y < z → z ≤ d.size → Srt (ltOf cf) (rotF (get d) i m e) x y → Srt (ltOf cf) (rotF (get d) i m e) y z → Calls P 33 #[.slice (some ⟨blk, off, none⟩) d.size cap, .int .i64 x, .int .i64 y, .int .i64 z, .func (.func 19) #[] #[]] wr (SymTo enc k cf w0 blk off d.size (rotF (get d) i m e) x y z)) := ⟨fun x y z g1 g2 g3 g4 g5 g6 => by rw [← HG1.out] at g5 g6 ⊢; exact HIH.out wr d x y z g1 g2 g3 g4 rfl S1.out g5 g6⟩
          have SA := S1
          by_cases x1L : i < m
          · skip
            have x1a : (i : Int) < (m : Int) := by omega
            have x1b : ¬ (m : Int) < (e : Int) := by omega
            by_cases x2 : a < i ∧ i < mid
            · skip
              have x2a : (a : Int) < (i : Int) := by omega
              have x2b : (i : Int) < (mid : Int) := by omega
              by_cases x3 : mid < e ∧ e < b
              · skip
                have x3a : (mid : Int) < (e : Int) := by omega
                have x3b : (e : Int) < (b : Int) := by omega
                go_wp2_with (first | (go_at_call_of 33 (Value.int .i64 (a : Int)); refine (HA.out a i mid HQ.out.2.2.2.2.2.2.2.1 x2.1 x2.2 (by have := HQ.out; omega) HSr.out.1 HSr.out.2.1).mono ?_; rintro _ w2 ⟨rfl, d2, hz2, S2, hK2⟩; have Hz2 := Kp.mk hz2; have SB : Aside (SWK enc k w0 blk off d2 w2) := S2; have HK2 := Kp.mk hK2; clear hz2 S2 hK2) | (go_at_call_of 33 (Value.int .i64 (mid : Int)); refine (HIH.out w2 d2 mid e b HQ.out.2.2.2.2.2.2.2.2 x3.1 x3.2 HQ.out.2.2.2.2.2.2.1 Hz2.out SB.out (srt_ext (fun k hk _ => HK2.out.2 k (.inr hk)) HSr.out.2.2.1) (srt_ext (fun k hk _ => HK2.out.2 k (.inr (by have := HQ.out; omega))) HSr.out.2.2.2)).mono ?_; rintro _ w3 ⟨rfl, d3, hz3, S3, hK3⟩))
                all_goals (go_end0; exact ⟨rfl, d3, hz3, S3, HE.out _ _ HK2.out hK3⟩)
              · skip
                by_cases x3L : mid < e
                · skip
                  have x3a : (mid : Int) < (e : Int) := by omega
                  have x3b : ¬ (e : Int) < (b : Int) := by omega
                  go_wp2_with (first | (go_at_call_of 33 (Value.int .i64 (a : Int)); refine (HA.out a i mid HQ.out.2.2.2.2.2.2.2.1 x2.1 x2.2 (by have := HQ.out; omega) HSr.out.1 HSr.out.2.1).mono ?_; rintro _ w2 ⟨rfl, d2, hz2, S2, hK2⟩; have Hz2 := Kp.mk hz2; have SB : Aside (SWK enc k w0 blk off d2 w2) := S2; have HK2 := Kp.mk hK2; clear hz2 S2 hK2))
                  all_goals (go_end0; exact ⟨rfl, d2, Hz2.out, SB.out, HE.out _ _ HK2.out (symOK_left HQ.out.2.2.2.2.1 HQ.out.2.2.2.2.2.1 (by have := HQ.out; omega))⟩)
                · skip
                  have x3a : ¬ (mid : Int) < (e : Int) := by omega
                  go_wp2_with (first | (go_at_call_of 33 (Value.int .i64 (a : Int)); refine (HA.out a i mid HQ.out.2.2.2.2.2.2.2.1 x2.1 x2.2 (by have := HQ.out; omega) HSr.out.1 HSr.out.2.1).mono ?_; rintro _ w2 ⟨rfl, d2, hz2, S2, hK2⟩; have Hz2 := Kp.mk hz2; have SB : Aside (SWK enc k w0 blk off d2 w2) := S2; have HK2 := Kp.mk hK2; clear hz2 S2 hK2))
                  all_goals (go_end0; exact ⟨rfl, d2, Hz2.out, SB.out, HE.out _ _ HK2.out (symOK_left HQ.out.2.2.2.2.1 HQ.out.2.2.2.2.2.1 (by have := HQ.out; omega))⟩)
            · skip
              by_cases x2L : a < i
              · skip
                have x2a : (a : Int) < (i : Int) := by omega
                have x2b : ¬ (i : Int) < (mid : Int) := by omega
                by_cases x3 : mid < e ∧ e < b
                · skip
                  have x3a : (mid : Int) < (e : Int) := by omega
                  have x3b : (e : Int) < (b : Int) := by omega
                  go_wp2_with (first | (go_at_call_of 33 (Value.int .i64 (mid : Int)); refine (HA.out mid e b HQ.out.2.2.2.2.2.2.2.2 x3.1 x3.2 HQ.out.2.2.2.2.2.2.1 HSr.out.2.2.1 HSr.out.2.2.2).mono ?_; rintro _ w3 ⟨rfl, d3, hz3, S3, hK3⟩))
                  all_goals (go_end0; exact ⟨rfl, d3, hz3, S3, HE.out _ _ (symOK_left HQ.out.2.2.1 HQ.out.2.2.2.1 (by have := HQ.out; omega)) hK3⟩)
                · skip
                  by_cases x3L : mid < e
                  · skip
                    have x3a : (mid : Int) < (e : Int) := by omega
                    have x3b : ¬ (e : Int) < (b : Int) := by omega
                    go_wp2_with (fail)
                    all_goals (go_end0; exact ⟨rfl, d, rfl, SA.out, by have h9 := HE.out _ _ (symOK_left HQ.out.2.2.1 HQ.out.2.2.2.1 (by have := HQ.out; omega)) (symOK_left HQ.out.2.2.2.2.1 HQ.out.2.2.2.2.2.1 (by have := HQ.out; omega)); rwa [← HG1.out] at h9⟩)
                  · skip
                    have x3a : ¬ (mid : Int) < (e : Int) := by omega
                    go_wp2_with (fail)
                    all_goals (go_end0; exact ⟨rfl, d, rfl, SA.out, by have h9 := HE.out _ _ (symOK_left HQ.out.2.2.1 HQ.out.2.2.2.1 (by have := HQ.out; omega)) (symOK_left HQ.out.2.2.2.2.1 HQ.out.2.2.2.2.2.1 (by have := HQ.out; omega)); rwa [← HG1.out] at h9⟩)
              · skip
                have x2a : ¬ (a : Int) < (i : Int) := by omega
                by_cases x3 : mid < e ∧ e < b
                · skip
                  have x3a : (mid : Int) < (e : Int) := by omega
                  have x3b : (e : Int) < (b : Int) := by omega
                  go_wp2_with (first | (go_at_call_of 33 (Value.int .i64 (mid : Int)); refine (HA.out mid e b HQ.out.2.2.2.2.2.2.2.2 x3.1 x3.2 HQ.out.2.2.2.2.2.2.1 HSr.out.2.2.1 HSr.out.2.2.2).mono ?_; rintro _ w3 ⟨rfl, d3, hz3, S3, hK3⟩))
                  all_goals (go_end0; exact ⟨rfl, d3, hz3, S3, HE.out _ _ (symOK_left HQ.out.2.2.1 HQ.out.2.2.2.1 (by have := HQ.out; omega)) hK3⟩)
                · skip
                  by_cases x3L : mid < e
                  · skip
                    have x3a : (mid : Int) < (e : Int) := by omega
                    have x3b : ¬ (e : Int) < (b : Int) := by omega
                    go_wp2_with (fail)
                    all_goals (go_end0; exact ⟨rfl, d, rfl, SA.out, by have h9 := HE.out _ _ (symOK_left HQ.out.2.2.1 HQ.out.2.2.2.1 (by have := HQ.out; omega)) (symOK_left HQ.out.2.2.2.2.1 HQ.out.2.2.2.2.2.1 (by have := HQ.out; omega)); rwa [← HG1.out] at h9⟩)
                  · skip
                    have x3a : ¬ (mid : Int) < (e : Int) := by omega
                    go_wp2_with (fail)
                    all_goals (go_end0; exact ⟨rfl, d, rfl, SA.out, by have h9 := HE.out _ _ (symOK_left HQ.out.2.2.1 HQ.out.2.2.2.1 (by have := HQ.out; omega)) (symOK_left HQ.out.2.2.2.2.1 HQ.out.2.2.2.2.2.1 (by have := HQ.out; omega)); rwa [← HG1.out] at h9⟩)
          · skip
            have x1a : ¬ (i : Int) < (m : Int) := by omega
            by_cases x2 : a < i ∧ i < mid
            · skip
              have x2a : (a : Int) < (i : Int) := by omega
              have x2b : (i : Int) < (mid : Int) := by omega
              by_cases x3 : mid < e ∧ e < b
              · skip
                have x3a : (mid : Int) < (e : Int) := by omega
                have x3b : (e : Int) < (b : Int) := by omega
                go_wp2_with (first | (go_at_call_of 33 (Value.int .i64 (a : Int)); refine (HA.out a i mid HQ.out.2.2.2.2.2.2.2.1 x2.1 x2.2 (by have := HQ.out; omega) HSr.out.1 HSr.out.2.1).mono ?_; rintro _ w2 ⟨rfl, d2, hz2, S2, hK2⟩; have Hz2 := Kp.mk hz2; have SB : Aside (SWK enc k w0 blk off d2 w2) := S2; have HK2 := Kp.mk hK2; clear hz2 S2 hK2) | (go_at_call_of 33 (Value.int .i64 (mid : Int)); refine (HIH.out w2 d2 mid e b HQ.out.2.2.2.2.2.2.2.2 x3.1 x3.2 HQ.out.2.2.2.2.2.2.1 Hz2.out SB.out (srt_ext (fun k hk _ => HK2.out.2 k (.inr hk)) HSr.out.2.2.1) (srt_ext (fun k hk _ => HK2.out.2 k (.inr (by have := HQ.out; omega))) HSr.out.2.2.2)).mono ?_; rintro _ w3 ⟨rfl, d3, hz3, S3, hK3⟩))
                all_goals (go_end0; exact ⟨rfl, d3, hz3, S3, HE.out _ _ HK2.out hK3⟩)
              · skip
                by_cases x3L : mid < e
                · skip
                  have x3a : (mid : Int) < (e : Int) := by omega
                  have x3b : ¬ (e : Int) < (b : Int) := by omega
                  go_wp2_with (first | (go_at_call_of 33 (Value.int .i64 (a : Int)); refine (HA.out a i mid HQ.out.2.2.2.2.2.2.2.1 x2.1 x2.2 (by have := HQ.out; omega) HSr.out.1 HSr.out.2.1).mono ?_; rintro _ w2 ⟨rfl, d2, hz2, S2, hK2⟩; have Hz2 := Kp.mk hz2; have SB : Aside (SWK enc k w0 blk off d2 w2) := S2; have HK2 := Kp.mk hK2; clear hz2 S2 hK2))
                  all_goals (go_end0; exact ⟨rfl, d2, Hz2.out, SB.out, HE.out _ _ HK2.out (symOK_left HQ.out.2.2.2.2.1 HQ.out.2.2.2.2.2.1 (by have := HQ.out; omega))⟩)
                · skip
                  have x3a : ¬ (mid : Int) < (e : Int) := by omega
                  go_wp2_with (first | (go_at_call_of 33 (Value.int .i64 (a : Int)); refine (HA.out a i mid HQ.out.2.2.2.2.2.2.2.1 x2.1 x2.2 (by have := HQ.out; omega) HSr.out.1 HSr.out.2.1).mono ?_; rintro _ w2 ⟨rfl, d2, hz2, S2, hK2⟩; have Hz2 := Kp.mk hz2; have SB : Aside (SWK enc k w0 blk off d2 w2) := S2; have HK2 := Kp.mk hK2; clear hz2 S2 hK2))
                  all_goals (go_end0; exact ⟨rfl, d2, Hz2.out, SB.out, HE.out _ _ HK2.out (symOK_left HQ.out.2.2.2.2.1 HQ.out.2.2.2.2.2.1 (by have := HQ.out; omega))⟩)
            · skip
              by_cases x2L : a < i
              · skip
                have x2a : (a : Int) < (i : Int) := by omega
                have x2b : ¬ (i : Int) < (mid : Int) := by omega
                by_cases x3 : mid < e ∧ e < b
                · skip
                  have x3a : (mid : Int) < (e : Int) := by omega
                  have x3b : (e : Int) < (b : Int) := by omega
                  go_wp2_with (first | (go_at_call_of 33 (Value.int .i64 (mid : Int)); refine (HA.out mid e b HQ.out.2.2.2.2.2.2.2.2 x3.1 x3.2 HQ.out.2.2.2.2.2.2.1 HSr.out.2.2.1 HSr.out.2.2.2).mono ?_; rintro _ w3 ⟨rfl, d3, hz3, S3, hK3⟩))
                  all_goals (go_end0; exact ⟨rfl, d3, hz3, S3, HE.out _ _ (symOK_left HQ.out.2.2.1 HQ.out.2.2.2.1 (by have := HQ.out; omega)) hK3⟩)
                · skip
                  by_cases x3L : mid < e
                  · skip
                    have x3a : (mid : Int) < (e : Int) := by omega
                    have x3b : ¬ (e : Int) < (b : Int) := by omega
                    go_wp2_with (fail)
                    all_goals (go_end0; exact ⟨rfl, d, rfl, SA.out, by have h9 := HE.out _ _ (symOK_left HQ.out.2.2.1 HQ.out.2.2.2.1 (by have := HQ.out; omega)) (symOK_left HQ.out.2.2.2.2.1 HQ.out.2.2.2.2.2.1 (by have := HQ.out; omega)); rwa [← HG1.out] at h9⟩)
                  · skip
                    have x3a : ¬ (mid : Int) < (e : Int) := by omega
                    go_wp2_with (fail)
                    all_goals (go_end0; exact ⟨rfl, d, rfl, SA.out, by have h9 := HE.out _ _ (symOK_left HQ.out.2.2.1 HQ.out.2.2.2.1 (by have := HQ.out; omega)) (symOK_left HQ.out.2.2.2.2.1 HQ.out.2.2.2.2.2.1 (by have := HQ.out; omega)); rwa [← HG1.out] at h9⟩)
              · skip
                have x2a : ¬ (a : Int) < (i : Int) := by omega
                by_cases x3 : mid < e ∧ e < b
                · skip
                  have x3a : (mid : Int) < (e : Int) := by omega
                  have x3b : (e : Int) < (b : Int) := by omega
                  go_wp2_with (first | (go_at_call_of 33 (Value.int .i64 (mid : Int)); refine (HA.out mid e b HQ.out.2.2.2.2.2.2.2.2 x3.1 x3.2 HQ.out.2.2.2.2.2.2.1 HSr.out.2.2.1 HSr.out.2.2.2).mono ?_; rintro _ w3 ⟨rfl, d3, hz3, S3, hK3⟩))
                  all_goals (go_end0; exact ⟨rfl, d3, hz3, S3, HE.out _ _ (symOK_left HQ.out.2.2.1 HQ.out.2.2.2.1 (by have := HQ.out; omega)) hK3⟩)
                · skip
                  by_cases x3L : mid < e
                  · skip
                    have x3a : (mid : Int) < (e : Int) := by omega
                    have x3b : ¬ (e : Int) < (b : Int) := by omega
                    go_wp2_with (fail)
                    all_goals (go_end0; exact ⟨rfl, d, rfl, SA.out, by have h9 := HE.out _ _ (symOK_left HQ.out.2.2.1 HQ.out.2.2.2.1 (by have := HQ.out; omega)) (symOK_left HQ.out.2.2.2.2.1 HQ.out.2.2.2.2.2.1 (by have := HQ.out; omega)); rwa [← HG1.out] at h9⟩)
                  · skip
                    have x3a : ¬ (mid : Int) < (e : Int) := by omega
                    go_wp2_with (fail)
                    all_goals (go_end0; exact ⟨rfl, d, rfl, SA.out, by have h9 := HE.out _ _ (symOK_left HQ.out.2.2.1 HQ.out.2.2.2.1 (by have := HQ.out; omega)) (symOK_left HQ.out.2.2.2.2.1 HQ.out.2.2.2.2.2.1 (by have := HQ.out; omega)); rwa [← HG1.out] at h9⟩)
end Go.Proofs.Ytpgkpigpehehmaa.Bas
