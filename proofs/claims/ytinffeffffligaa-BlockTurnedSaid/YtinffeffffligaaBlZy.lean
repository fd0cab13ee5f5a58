import Derived.Test.YtinffeffffligaaBlZr
import Derived.Test.YtinffeffffligaaBlZu
import Derived.Test.YtinffeffffligaaBlZw
import Derived.Deep.DeepCutAuto
set_option linter.unusedVariables false
set_option linter.unusedSimpArgs false
namespace Go.Proofs.Ytinffeffffligaa.Bas
open Go.RowKit Go.Maps

/-! ### The law BlockTurned -/
/-- Three bits of any number. -/
theorem i64_and7 (n : Int) : bits .and .i64 n 7 = n % 8 := by
  have h7 : (BitVec.ofInt 64 7).toNat = 2 ^ 3 - 1 := by decide
  have key : (BitVec.ofInt 64 n &&& BitVec.ofInt 64 7).toNat = (n % ((2 ^ 64 : Nat) : Int)).toNat % 2 ^ 3 := by
    rw [BitVec.toNat_and, BitVec.toNat_ofInt, h7, Nat.and_two_pow_sub_one_eq_mod]
  show IntKind.i64.wrap ((BitVec.ofInt 64 n &&& BitVec.ofInt 64 7).toNat : Nat) = n % 8
  rw [key, IntKind.wrap_i64]
  omega
theorem and7 (x : Int) : ∃ k : Nat, k < 8 ∧ bits .and .i64 x 7 = (k : Int) := by
  refine ⟨(x % 8).toNat, by omega, ?_⟩
  rw [i64_and7]
  omega
set_option maxHeartbeats 8000000 in
set_option maxRecDepth 100000 in
theorem block_turned {w : World} {A : Option Addr} {n c : Nat} {ls : List (Nat × Nat)} (hw : EsW w A n c ls) (hm : (∃ es, Es w A n c es ∧ SeqE es) ∨ (∀ W, Below w.heap.size w W → ∀ st, Calls Try.prog 12 #[.slice A n c, .int .i64 st] W (BErrP W)))
    (st at_ bit : Int) :
    Calls Try.prog 4 #[.slice A n c, .int .i64 st, .int .i64 at_, .int .i64 bit] w fun e w' => e = .returned (.bool true) ∧ Below w.heap.size w w' := by
  obtain ⟨es0, hes0, hbd⟩ := bd_any hm st
  have HW := Kp.mk hw
  have HES := Kp.mk hes0
  have HBD := Kp.mk hbd
  have HBig := Kp.mk (fun (W : World) (hb : Below w.heap.size w W) => big_weak (hw.below hb))
  obtain ⟨bg, hbg⟩ : ∃ bg, bg = bigL ls := ⟨_, rfl⟩
  rw [← hbg] at HBig
  have HBG := Kp.mk hbg
  clear hw hm hes0 hbd hbg
  go_enter Try.func4, Try.ntmps4
  go_wp2_with fail
  refine (alive_any w).mono ?_
  rintro e w1 ⟨rfl, hb1⟩
  have HB1 := Kp.mk hb1
  clear hb1
  go_wp2_with fail
  refine (HBig.out _ HB1.out).mono ?_
  rintro e w2 ⟨rfl, hw2⟩
  subst hw2
  go_wp2_with fail
  refine (HBD.out _ HB1.out).mono ?_
  rintro e w3 ⟨hb3, hcs⟩
  have HB3 := Kp.mk (HB1.out.trans (hb3.mono HB1.out.size))
  clear HBig HBD
  rcases hcs with ⟨r, hr, rfl⟩ | ⟨es, he0, hchk, A3, n3, c3, rfl, hnu⟩
  · have h1 : (r == 0) = false := by simpa using hr
    have h2 : (r != 0) = true := by simpa using hr
    clear hr hb3
    cases bg
    · go_wp2_with fail
      go_ret
      exact ⟨rfl, HB3.out⟩
    · go_wp2_with fail
      go_ret
      exact ⟨rfl, HB3.out⟩
  · obtain ⟨hes, hseq⟩ := HES.out es he0
    cases bg
    · by_cases hs1 : at_ < 0
      · clear hb3 hnu
        go_wp2_with fail
        go_ret
        exact ⟨rfl, HB3.out⟩
      obtain ⟨a, rfl⟩ := Int.eq_ofNat_of_zero_le (show 0 ≤ at_ by omega)
      have hl60 : es.length ≤ 60 := by
        have h1 := big_short HBG.out.symm
        have h2 := HW.out.len
        have h3 := hes.len
        omega
      have hI := built_is hes hseq hchk st
      have hsm := build_small hI.good (clampN st) hl60
      have hlen8 : 8 ≤ (buildB (clampN st) es).length := by rw [buildB_len]; omega
      obtain ⟨xs, hxs⟩ : ∃ xs, xs = buildB (clampN st) es := ⟨_, rfl⟩
      have hxb : Byt xs := by rw [hxs]; exact buildB_byt hI.good (clampN st)
      have hsum : SumOk xs := by rw [hxs]; exact hI.parts.2.1
      rw [← hxs] at hsm hlen8 hnu
      have hn3 := (hnu.rd (by omega)).1
      obtain ⟨p, hp⟩ : ∃ p, p = a % n3 := ⟨_, rfl⟩
      have hpn : p < n3 := by rw [hp]; exact Nat.mod_lt _ (by omega)
      have hpn' : ¬ n3 ≤ p := by omega
      have htw : IntKind.i64.wrap ((a : Int).tmod (n3 : Int)) = (p : Int) := by rw [hp, ← Int.ofNat_tmod, ← hp]; exact IntWalk.i64_in _ (by omega)
      have ht : (a : Int).tmod (n3 : Int) = (p : Int) := by rw [hp, ← Int.ofNat_tmod]
      have ht2 : (a : Int) % (n3 : Int) = (p : Int) := by rw [hp]; rfl
      have hne3 : ((n3 : Int) == 0) = false := by rw [beq_eq_false_iff_ne]; omega
      obtain ⟨k, hk8, hk⟩ := and7 bit
      obtain ⟨qb, hAb, hcb⟩ := hnu.cells (by omega)
      subst hAb
      have HNu := Kp.mk hnu
      have b0 := hcb p hpn
      obtain ⟨v, hv⟩ : ∃ v : Nat, xs.getD p 0 = (v : Int) := Int.eq_ofNat_of_zero_le (hxb _ (by simp [List.getD, show p < xs.length by omega])).1
      rw [hv] at b0
      have hfz : w3.frozen? ⟨qb, p, none⟩ = false := by
        rcases hnu.own.2 with ⟨e1, _⟩ | ⟨q, cap, cur, e1, hB, hh, _⟩
        · cases e1
        · injection e1 with e1 _ _
          injection e1 with e1
          injection e1 with e1 _ _
          subst e1
          exact free_top hh p
      have HN3 := Kp.mk hn3
      have HXS := Kp.mk hxs
      have HV := Kp.mk hv
      have HI := Kp.mk hI
      have HXB := Kp.mk hxb
      have HSM := Kp.mk hsum
      have hn38 : 8 ≤ n3 := by omega
      have hn3m : n3 ≤ 300000 := by omega
      have hkw : (k : Int) % 18446744073709551616 = (k : Int) := by omega
      have hkw2 : IntKind.u64.wrap (k : Int) = (k : Int) := w64 _ (by omega) (by omega)
      have hvr : v ≤ 255 := by have := (hxb _ (show xs.getD p 0 ∈ xs by simp [List.getD, show p < xs.length by omega])).2; omega
      have h2k : 2 ^ k < 256 := by
        have := Nat.pow_lt_pow_right (show 1 < 2 by omega) hk8
        simpa using this
      obtain ⟨d, hdd⟩ : ∃ d, d = v ^^^ 2 ^ k := ⟨_, rfl⟩
      have hd : bits .xor .u8 (v : Int) ((2 : Int) ^ k % 256) = (d : Int) := by
        have e : (2 : Int) ^ k % 256 = ((2 ^ k : Nat) : Int) := by
          rw [show (2 : Int) ^ k = ((2 ^ k : Nat) : Int) by push_cast; rfl]
          exact Int.emod_eq_of_lt (Int.natCast_nonneg _) (Int.ofNat_lt.2 h2k)
        rw [e, xor8 (by omega) h2k, hdd]
      have hdr : d ≤ 255 := by
        have := Nat.xor_lt_two_pow (x := v) (y := 2 ^ k) (n := 8) (by omega) (by omega)
        omega
      have hdn : xs.getD p 0 ≠ (d : Int) := by
        rw [hv]
        intro e
        have e2 : v ^^^ 2 ^ k = v ^^^ 0 := by rw [Nat.xor_zero, ← hdd]; omega
        have := xor_left e2
        have := Nat.two_pow_pos k
        omega
      have hnot : ¬ SumOk (xs.set p (d : Int)) := sum_turned hxb hlen8 hsum (by omega) ⟨by omega, by omega⟩ hdn
      have hyb : Byt (xs.set p (d : Int)) := fun x hx => by
        rcases List.mem_or_eq_of_mem_set hx with h | h
        · exact hxb x h
        · rw [h]; omega
      have hne : ∀ es s, ¬ IsB (xs.set p (d : Int)) es s := fun es s hh => hnot hh.parts.2.1
      have HYB := Kp.mk hyb
      have HNE := Kp.mk hne
      clear hes hseq hb3 he0 hchk hnu hcb hn3 hxs hv hI hxb hsum hp hsm hlen8 hdd h2k hvr hdn hnot hyb hne
      go_wp2_with fail
      go_region_with (fail)
      all_goals
        go_wp2_with fail
        have hrd : Rd (w3.setCell ⟨qb, p, none⟩ (.int .u8 (d : Int))) .u8 (some ⟨qb, 0, none⟩) n3 c3 (xs.set p (d : Int)) :=
          ⟨by rw [List.length_set]; exact HN3.out.symm, by omega, (fun e => by cases e), fun _ => ⟨_, rfl, fun j hj => by
            rw [Addr.add_lit, Nat.zero_add]
            by_cases hjp : j = p
            · subst hjp
              rw [World.cell?_setCell_same' _ _ _ (by rw [b0]; rfl)]
              have : j < xs.length := by have := HN3.out; omega
              simp [List.getD, this]
            · obtain ⟨q2, e2, hc2⟩ := HNu.out.cells (by omega)
              injection e2 with e2
              injection e2 with e2 _ _
              subst e2
              have hne : (⟨qb, p, none⟩ : Addr) ≠ ⟨qb, j, none⟩ := fun e => by
                injection e with _ e _
                exact hjp e.symm
              rw [World.cell?_setCell_other _ _ _ _ hne, hc2 j hj]
              simp only [List.getD, List.getElem?_set_ne (fun e => hjp e.symm)]⟩⟩
        have hqb : w.heap.size ≤ qb := Nat.le_trans HB1.out.size (HNu.out.base qb rfl)
        have hbv : Below w.heap.size w (w3.setCell ⟨qb, p, none⟩ (.int .u8 (d : Int))) := HB3.out.trans (((Fr.refl w3 (fun q => q = qb)).setCell (a := ⟨qb, p, none⟩) (.inl rfl) (.int .u8 (d : Int))).toBelow (fun q hq => by rw [hq]; exact hqb) HB3.out.size)
        have hrv := hrd.below ((Below.refl (w3.setCell ⟨qb, p, none⟩ (.int .u8 (d : Int))).heap.size (w3.setCell ⟨qb, p, none⟩ (.int .u8 (d : Int)))).drew)
        have hbw := hbv.drew
        obtain ⟨V, hV⟩ : ∃ W, W = (w3.setCell ⟨qb, p, none⟩ (.int .u8 (d : Int))).drew := ⟨_, rfl⟩
        rw [← hV] at hrv hbw ⊢
        have HRV := Kp.mk hrv
        have HBV := Kp.mk hbw
        have HAl := Kp.mk (block_all hrv HNu.out.cap HYB.out (by omega))
        clear hrd hqb hbv hrv hbw hV b0 hfz
        refine HAl.out.mono ?_
        rintro e w5 ⟨hb5, (⟨cc, hbad, rfl⟩ | ⟨v5, ps5, s5, hI5, _⟩)⟩
        · have HRl := Kp.mk ((ref_blockall (HRV.out.below hb5) HNu.out.cap HYB.out (by omega)).mono fun e w' hq => rallQ hq)
          have HB5 := Kp.mk (HBV.out.trans (hb5.mono HBV.out.size))
          have HBad := Kp.mk hbad
          clear hb5 hbad HAl
          go_wp2_with fail
          refine HRl.out.mono ?_
          rintro e w6 ⟨hb6, (⟨c6, hbad6, rfl⟩ | ⟨v6, ps6, s6, hI6, _⟩)⟩
          · obtain rfl := HBad.out.one hbad6
            have hcn := hbad6.ne
            have g1 : (cc == 0) = false := by simpa using hcn
            have g2 : (cc != 0) = true := by simpa using hcn
            have HB6 := Kp.mk (HB5.out.trans (hb6.mono HB5.out.size))
            clear hb6 hbad6 hcn HRl
            go_wp2_with (first
              | (go_at_call 13; refine (num_any _ _).mono ?_; rintro e w7 ⟨rfl, hw7⟩; subst hw7)
              | (go_at_call 15; refine (same_entries (es_nil _) (es_nil _)).mono ?_; rintro e w7 ⟨rfl, hb7⟩; have HB7 := Kp.mk (HB6.out.trans (hb7.mono HB6.out.size)); clear hb7))
            go_ret
            exact ⟨rfl, HB7.out⟩
          · exact (HNE.out _ _ hI6).elim
        · exact (HNE.out _ _ hI5).elim
    · clear hb3 hnu
      go_wp2_with fail
      go_ret
      exact ⟨rfl, HB3.out⟩
end Go.Proofs.Ytinffeffffligaa.Bas
