import Derived.Test.YtpgkpigpehehmaaSymJ
set_option linter.unusedVariables false
set_option linter.unusedSimpArgs false
namespace Go.Proofs.Ytpgkpigpehehmaa.Bas
open Go.RowKit Go.Maps Go.Sort Go.Shelf Go.Lib

/-! ### The blocks of the stable sort -/
section
variable {α : Type} {lt : α → α → Bool}
theorem srt_far {f : Nat → α} {a b : Nat} (h : b ≤ a + 1) : Srt lt f a b := fun i j _ _ _ => by omega
theorem srt_cast {f : Nat → α} {a b c d : Nat} (h : Srt lt f a b) (h1 : c = a) (h2 : d = b) : Srt lt f c d := by subst h1; subst h2; exact h
/-- Every block of B elements is sorted. -/
def Blk2 (lt : α → α → Bool) (N : Nat) (f : Nat → α) (B : Nat) : Prop := ∀ p, Srt lt f (p * B) (min (p * B + B) N)
theorem blk_first {N a q : Nat} {f g : Nat → α} (ha : a = q * 20) (haN : a ≤ N) (hN : N < a + 20) (h : ∀ p, p < q → Srt lt f (p * 20) (p * 20 + 20)) (ho : ∀ k, k < a ∨ N ≤ k → g k = f k) (hs : Srt lt g a N) : Blk2 lt N g 20 := fun p => by
  rcases Nat.lt_trichotomy p q with h1 | h1 | h1
  · refine srt_cast (srt_ext (fun k _ hk => ho k (.inl (by omega))) (h p h1)) rfl (by omega)
  · subst h1
    exact srt_cast hs (by omega) (by omega)
  · exact srt_far (by omega)
theorem blk_step1 {a q : Nat} {f g : Nat → α} (ha : a = q * 20) (h : ∀ p, p < q → Srt lt f (p * 20) (p * 20 + 20)) (ho : ∀ k, k < a ∨ a + 20 ≤ k → g k = f k) (hs : Srt lt g a (a + 20)) : ∀ p, p < q + 1 → Srt lt g (p * 20) (p * 20 + 20) := fun p hp => by
  by_cases h1 : p = q
  · subst h1; exact srt_cast hs (by omega) (by omega)
  · exact srt_ext (fun k _ hk => ho k (.inl (by omega))) (h p (by omega))
/-- Within a pass: the pairs of blocks ahead of a are merged. -/
structure Pass (lt : α → α → Bool) (N B q a : Nat) (f : Nat → α) : Prop where
  at' : a = q * (2 * B)
  le : a ≤ N
  done : ∀ p, p < q → Srt lt f (p * (2 * B)) (p * (2 * B) + 2 * B)
  left : ∀ p, a ≤ p * B → Srt lt f (p * B) (min (p * B + B) N)
theorem Pass.start {N B : Nat} {f : Nat → α} (h : Blk2 lt N f B) : Pass lt N B 0 0 f := ⟨by rw [Nat.zero_mul], Nat.zero_le _, fun p hp => absurd hp (Nat.not_lt_zero _), fun p _ => h p⟩
theorem Pass.fst {N B q a : Nat} {f : Nat → α} (h : Pass lt N B q a f) : Srt lt f a (min (a + B) N) := by
  have e : (2 * q) * B = a := by rw [h.at', Nat.mul_comm 2 q, Nat.mul_assoc]
  have := h.left (2 * q) (by omega)
  rwa [e] at this
theorem Pass.snd {N B q a : Nat} {f : Nat → α} (h : Pass lt N B q a f) : Srt lt f (a + B) (min (a + B + B) N) := by
  have e : (2 * q + 1) * B = a + B := by rw [Nat.add_mul, Nat.one_mul, h.at', Nat.mul_comm 2 q, Nat.mul_assoc]
  have := h.left (2 * q + 1) (by omega)
  rwa [e] at this
theorem mul_le_of_lt {p q B : Nat} (h : p < q) : p * B + B ≤ q * B := by
  have := Nat.mul_le_mul_right B (show p + 1 ≤ q from h)
  rwa [Nat.add_mul, Nat.one_mul] at this
theorem Pass.step {N B q a : Nat} {f g : Nat → α} (h : Pass lt N B q a f) (hN : a + 2 * B ≤ N) (ho : ∀ k, k < a ∨ a + 2 * B ≤ k → g k = f k) (hs : Srt lt g a (a + 2 * B)) : Pass lt N B (q + 1) (a + 2 * B) g := by
  have ha := h.at'
  refine ⟨by rw [Nat.add_mul, Nat.one_mul, ← ha], hN, fun p hp => ?_, fun p hp => ?_⟩
  · by_cases h1 : p = q
    · subst h1; exact srt_cast hs ha.symm (by rw [← ha])
    · have := mul_le_of_lt (B := 2 * B) (show p < q by omega)
      exact srt_ext (fun k _ hk => ho k (.inl (by omega))) (h.done p (by omega))
  · exact srt_ext (fun k hk _ => ho k (.inr (by omega))) (h.left p (by omega))
theorem Pass.over {N B q a : Nat} {f g : Nat → α} (h : Pass lt N B q a f) (hN : N < a + 2 * B) (ho : ∀ k, k < a ∨ N ≤ k → g k = f k) (hs : Srt lt g a N) : Blk2 lt N g (2 * B) := fun p => by
  have ha := h.at'
  have hl := h.le
  rcases Nat.lt_trichotomy p q with h1 | h1 | h1
  · have := mul_le_of_lt (B := 2 * B) h1
    exact srt_cast (srt_ext (fun k _ hk => ho k (.inl (by omega))) (h.done p h1)) rfl (by omega)
  · subst h1
    exact srt_cast hs ha.symm (by omega)
  · have := mul_le_of_lt (B := 2 * B) h1
    exact srt_far (by omega)
end
/-- The insertion sort of a stretch, in whatever world of the sort. -/
theorem ins_any {w0 W0 W : World} {blk cap : Nat} {d0 d : Array (Cell4 w0)} (R : RowK (encC (w0 := w0)) 4 W0 blk 0 d0) (hb : Below w0.heap.size w0 W0) (hB : w0.heap.size ≤ blk) (S : SWK (encC (w0 := w0)) 4 W0 blk 0 d W) (hs : d.size = d0.size) (a b : Nat) (hab : a ≤ b) (hbN : b ≤ d.size) (hsz : d.size ≤ 1000000) :
    Calls Try.prog 32 #[.slice (some ⟨blk, 0, none⟩) d.size cap, .int .i64 a, .int .i64 b, .func (.func 19) #[] #[]] W fun e w' => e = .returned (.tuple #[]) ∧ SWK (encC (w0 := w0)) 4 W0 blk 0 (Sort.insertionSort (ltOf cfC) d a b) w' := by
  have hbW : Below w0.heap.size w0 W := by
    obtain ⟨m, os, rfl⟩ := S
    exact sortWorld_below hb hB
  refine (ins_lib W blk 0 cap a b d (cmp_lays hbW hB) (S.holds R.hblk R.hH hs) (S.lt R.hblk) hab hbN (by omega)).mono ?_
  rintro e w' ⟨rfl, n, os, rfl⟩
  exact ⟨rfl, S.on R.hblk n _ os (ins_good swo_key rfl hab hbN).2.2.2⟩
set_option maxHeartbeats 8000000 in
set_option maxRecDepth 100000 in
/-- stableCmpFunc: sorted, and equals keep their order. -/
theorem stable_any {w0 W : World} {blk cap N : Nat} {d : Array (Cell4 w0)} (hb : Below w0.heap.size w0 W) (hB : w0.heap.size ≤ blk) (hH : HoldsK (encC (w0 := w0)) 4 W blk 0 d) (hblk : blk < W.heap.size) (hN : d.size = N) (hsz : N ≤ 1000000) :
    Calls Try.prog 25 #[.slice (some ⟨blk, 0, none⟩) N cap, .int .i64 N, .func (.func 19) #[] #[]] W fun e w' =>
      e = .returned (.tuple #[]) ∧ ∃ d' : Array (Cell4 w0), d'.size = N ∧ SWK (encC (w0 := w0)) 4 W blk 0 d' w' ∧ Srt (ltOf cfC) (get d') 0 N ∧ Same (ltOf cfC) N (get d') (get d) := by
  have R : RowK (encC (w0 := w0)) 4 W blk 0 d := ⟨encC_len, encC_one, hH, hblk⟩
  have HI : Kp (∀ (wr : World) (dk : Array (Cell4 w0)) (a b : Nat), dk.size = N → SWK (encC (w0 := w0)) 4 W blk 0 dk wr → a ≤ b → b ≤ N →
      Calls Try.prog 32 #[.slice (some ⟨blk, 0, none⟩) N cap, .int .i64 a, .int .i64 b, .func (.func 19) #[] #[]] wr fun e w' => e = .returned (.tuple #[]) ∧ SWK (encC (w0 := w0)) 4 W blk 0 (Sort.insertionSort (ltOf cfC) dk a b) w') := ⟨fun wr dk a b h1 h2 h3 h4 => by
    have := ins_any (cap := cap) R hb hB h2 (h1.trans hN.symm) a b h3 (by omega) (by omega)
    rwa [h1] at this⟩
  have HM : Kp (SymIH Try.prog (encC (w0 := w0)) 4 cfC W blk 0 cap N 19 (N + 1)) := ⟨sym_merge rfl R (cmp_lays hb hB) hN hsz (nt_of swo_key) (N + 1)⟩
  have S0 : Aside (SWK (encC (w0 := w0)) 4 W blk 0 d W) := SWK.start hH
  have HN := Kp.mk hN
  clear hb hB hH hblk R hN
  go_enter Try.func25, Try.ntmps25
  go_wp2_with fail
  go_loopw [7, 8] (fun s t wr => ∃ (q a b : Nat) (dk : Array (Cell4 w0)), s = .int .i64 a ∧ t = .int .i64 b ∧ Kp (a = q * 20 ∧ b = a + 20) ∧ a ≤ N ∧ Kp (dk.size = N) ∧ Aside (SWK (encC (w0 := w0)) 4 W blk 0 dk wr) ∧ Kp (∀ p, p < q → Srt (ltOf cfC) (get dk) (p * 20) (p * 20 + 20)) ∧ Kp (Same (ltOf cfC) N (get dk) (get d))) (fun s _ _ => N - (intOf s).toNat)
  case atStart => exact ⟨0, 0, 20, d, rfl, rfl, ⟨rfl, rfl⟩, Nat.zero_le _, HN, S0, ⟨fun p hp => absurd hp (Nat.not_lt_zero _)⟩, ⟨Same.refl _⟩⟩
  case round =>
    clear S0 HN
    obtain ⟨q, a, b, dk, rfl, rfl, HAB, haN, HS, S1, HP, HSm⟩ := hrel
    by_cases hlt : b ≤ N
    · have hltz : (b : Int) ≤ (N : Int) := by omega
      obtain ⟨b', hb'⟩ : ∃ b', b' = b + 20 := ⟨_, rfl⟩
      have rb : IntKind.i64.wrap ((b : Int) + 20) = (b' : Int) := by rw [IntKind.wrap_i64]; omega
      have Hb' := Kp.mk hb'
      have HG := Kp.mk (ins_good (lt := ltOf (cfC (w0 := w0))) swo_key (d := dk) (a := a) (b := b) (N := N) HS.out (by have := HAB.out; omega) hlt)
      have HR : Kp (∀ p, p < q + 1 → Srt (ltOf cfC) (get (Sort.insertionSort (ltOf cfC) dk a b)) (p * 20) (p * 20 + 20)) := ⟨blk_step1 HAB.out.1 HP.out (fun k hk => HG.out.2.2.1 k (by have := HAB.out; omega)) (by have := HG.out.1; rwa [HAB.out.2] at this ⊢)⟩
      have Hic := Kp.mk (HI.out _ dk a b HS.out S1.out (by have := HAB.out; omega) hlt)
      clear S1 hb' HP
      go_wp2_with (go_at_call 32; refine Hic.out.mono ?_; rintro e w1 ⟨rfl, S2⟩; have S3 : Aside (SWK (encC (w0 := w0)) 4 W blk 0 (Sort.insertionSort (ltOf cfC) dk a b) w1) := S2; clear S2)
      go_roundw
      case rel => exact ⟨q + 1, b, b', _, rfl, by first | rfl | go_num, ⟨by have := HAB.out; omega, by have := HAB.out; have := Hb'.out; omega⟩, hlt, ⟨HG.out.2.2.2⟩, S3, HR, ⟨HG.out.2.1.trans HSm.out⟩⟩
      case measure => simp [intOf]; have := HAB.out; omega
    · have hltz : ¬ (b : Int) ≤ (N : Int) := by omega
      have HG := Kp.mk (ins_good (lt := ltOf (cfC (w0 := w0))) swo_key (d := dk) (a := a) (b := N) (N := N) HS.out haN (Nat.le_refl _))
      have HR : Kp (Blk2 (ltOf cfC) N (get (Sort.insertionSort (ltOf cfC) dk a N)) 20) := ⟨blk_first HAB.out.1 haN (by have := HAB.out; omega) HP.out (fun k hk => HG.out.2.2.1 k hk) HG.out.1⟩
      have Hic := Kp.mk (HI.out _ dk a N HS.out S1.out haN (Nat.le_refl _))
      clear S1 HP HI
      go_wp2_with (go_at_call 32; refine Hic.out.mono ?_; rintro e w1 ⟨rfl, S2⟩; have S3 : Aside (SWK (encC (w0 := w0)) 4 W blk 0 (Sort.insertionSort (ltOf cfC) dk a N) w1) := S2; clear S2)
      go_loopw [6] (fun s wr => ∃ (B : Nat) (dn : Array (Cell4 w0)), s = .int .i64 B ∧ 0 < B ∧ B ≤ 2 * N + 20 ∧ Kp (dn.size = N) ∧ Aside (SWK (encC (w0 := w0)) 4 W blk 0 dn wr) ∧ Kp (Blk2 (ltOf cfC) N (get dn) B) ∧ Kp (Same (ltOf cfC) N (get dn) (get d))) (fun s _ => 2 * N + 20 - (intOf s).toNat)
      case atStart => exact ⟨20, _, rfl, by omega, by omega, ⟨HG.out.2.2.2⟩, S3, HR, ⟨HG.out.2.1.trans HSm.out⟩⟩
      case round =>
        clear S3 HR HG HS HSm Hic HAB haN hlt hltz
        obtain ⟨B, dn, rfl, hB0, hBN, HS, S1, HBl, HSm⟩ := hrel
        by_cases hlt : B < N
        · have hltz : (B : Int) < (N : Int) := by omega
          obtain ⟨B2, hB2⟩ : ∃ B2, B2 = 2 * B := ⟨_, rfl⟩
          have r1 : IntKind.i64.wrap (2 * (B : Int)) = (B2 : Int) := by rw [IntKind.wrap_i64]; omega
          have r2 : IntKind.i64.wrap ((B : Int) * 2) = (B2 : Int) := by rw [IntKind.wrap_i64]; omega
          have HB2 := Kp.mk hB2
          have HPs := Kp.mk (Pass.start HBl.out)
          clear hB2 HBl
          go_wp2_with fail
          go_loopw [7, 8] (fun s t wr => ∃ (q a b : Nat) (de : Array (Cell4 w0)), s = .int .i64 a ∧ t = .int .i64 b ∧ Kp (b = a + 2 * B) ∧ Kp (de.size = N) ∧ Aside (SWK (encC (w0 := w0)) 4 W blk 0 de wr) ∧ Kp (Pass (ltOf cfC) N B q a (get de)) ∧ Kp (Same (ltOf cfC) N (get de) (get d))) (fun s _ _ => N - (intOf s).toNat)
          case atStart => exact ⟨0, 0, B2, dn, rfl, rfl, ⟨by have := HB2.out; omega⟩, HS, S1, HPs, HSm⟩
          case round =>
            clear S1 HPs HSm HS
            obtain ⟨q, a, b, de, rfl, rfl, HAB, HS, S1, HPs, HSm⟩ := hrel
            have haN := HPs.out.le
            obtain ⟨mm, hmm⟩ : ∃ mm, mm = a + B := ⟨_, rfl⟩
            have rm : IntKind.i64.wrap ((a : Int) + (B : Int)) = (mm : Int) := by rw [IntKind.wrap_i64]; omega
            have Hmm := Kp.mk hmm
            clear hmm
            by_cases hle : b ≤ N
            · have hlez : (b : Int) ≤ (N : Int) := by omega
              obtain ⟨b', hb'⟩ : ∃ b', b' = b + 2 * B := ⟨_, rfl⟩
              have rb : IntKind.i64.wrap ((b : Int) + (B2 : Int)) = (b' : Int) := by have := HB2.out; rw [IntKind.wrap_i64]; omega
              have Hb' := Kp.mk hb'
              have h1 : Srt (ltOf cfC) (get de) a mm := srt_cast HPs.out.fst rfl (by have := HAB.out; have := Hmm.out; omega)
              have h2 : Srt (ltOf cfC) (get de) mm b := srt_cast HPs.out.snd Hmm.out (by have := HAB.out; have := Hmm.out; omega)
              have H12 := Kp.mk (And.intro h1 h2)
              have Hsc := Kp.mk (HM.out _ de a mm b (by omega) (by have := Hmm.out; omega) (by have := HAB.out; have := Hmm.out; omega) hle HS.out S1.out h1 h2)
              clear S1 hb' h1 h2
              go_wp2_with (go_at_call 33; refine Hsc.out.mono ?_; rintro e w2 ⟨rfl, d2, hz, S2, hK⟩; have HK := Kp.mk (symOK_good swo_key hK (by have := Hmm.out; omega) (by have := HAB.out; have := Hmm.out; omega) hle H12.out.1 H12.out.2); have HO := Kp.mk hK.2; have HZ := Kp.mk hz; have S3 : Aside (SWK (encC (w0 := w0)) 4 W blk 0 d2 w2) := S2; clear hz S2 hK)
              go_roundw
              case rel => exact ⟨q + 1, b, b', d2, rfl, by first | rfl | go_num, Hb', HZ, S3, ⟨by rw [HAB.out]; exact HPs.out.step (by have := HAB.out; omega) (fun k hk => HO.out k (by have := HAB.out; omega)) (by have := HK.out.1; rwa [HAB.out] at this)⟩, ⟨HK.out.2.trans HSm.out⟩⟩
              case measure => simp [intOf]; have := HAB.out; omega
            · have hlez : ¬ (b : Int) ≤ (N : Int) := by omega
              by_cases hmN : mm < N
              · have hmz : (mm : Int) < (N : Int) := by omega
                have h1 : Srt (ltOf cfC) (get de) a mm := srt_cast HPs.out.fst rfl (by have := HAB.out; have := Hmm.out; omega)
                have h2 : Srt (ltOf cfC) (get de) mm N := srt_cast HPs.out.snd Hmm.out (by have := HAB.out; have := Hmm.out; omega)
                have H12 := Kp.mk (And.intro h1 h2)
                have Hsc := Kp.mk (HM.out _ de a mm N (by omega) (by have := Hmm.out; omega) hmN (Nat.le_refl _) HS.out S1.out h1 h2)
                clear S1 h1 h2
                go_wp2_with (go_at_call 33; refine Hsc.out.mono ?_; rintro e w2 ⟨rfl, d2, hz, S2, hK⟩; have HK := Kp.mk (symOK_good swo_key hK (by have := Hmm.out; omega) (by omega) (Nat.le_refl _) H12.out.1 H12.out.2); have HO := Kp.mk hK.2; have HZ := Kp.mk hz; have S3 : Aside (SWK (encC (w0 := w0)) 4 W blk 0 d2 w2) := S2; clear hz S2 hK)
                go_roundw
                case rel => exact ⟨B2, d2, by first | rfl | go_num, by have := HB2.out; omega, by have := HB2.out; omega, HZ, S3, ⟨by rw [HB2.out]; exact HPs.out.over (by have := HAB.out; omega) (fun k hk => HO.out k hk) HK.out.1⟩, ⟨HK.out.2.trans HSm.out⟩⟩
                case measure => simp [intOf]; have := HB2.out; omega
              · have hmz : ¬ (mm : Int) < (N : Int) := by omega
                have HK : Kp (Srt (ltOf cfC) (get de) a N) := ⟨srt_cast HPs.out.fst rfl (by have := Hmm.out; omega)⟩
                go_wp2_with fail
                go_roundw
                case rel => exact ⟨B2, de, by first | rfl | go_num, by have := HB2.out; omega, by have := HB2.out; omega, HS, S1, ⟨by rw [HB2.out]; exact HPs.out.over (by have := HAB.out; omega) (fun k _ => rfl) HK.out⟩, HSm⟩
                case measure => simp [intOf]; have := HB2.out; omega
        · have hltz : ¬ (B : Int) < (N : Int) := by omega
          have HF : Kp (Srt (ltOf cfC) (get dn) 0 N) := ⟨srt_cast (HBl.out 0) (by rw [Nat.zero_mul]) (by rw [Nat.zero_mul]; omega)⟩
          go_wp2_with fail
          go_end0
          exact ⟨rfl, dn, HS.out, S1.out, HF.out, HSm.out⟩
end Go.Proofs.Ytpgkpigpehehmaa.Bas
