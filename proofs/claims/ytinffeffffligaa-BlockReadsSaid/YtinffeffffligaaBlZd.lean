import Derived.Test.YtinffeffffligaaBlZa
import Derived.Test.YtinffeffffligaaBlZc
set_option linter.unusedVariables false
set_option linter.unusedSimpArgs false
namespace Go.Proofs.Ytinffeffffligaa.Bas
open Go.RowKit Go.Maps

/-! ### BlockAll, by the reference -/
theorem loose_seq : ∀ {es : List En} {xs last : List Int} {a : Nat}, Loose xs a last es → SeqE es
  | [], _, _, _, _ => fun j hj => absurd hj (Nat.not_lt_zero j)
  | e :: r, xs, last, a, h => by
    obtain ⟨t, hs, hr⟩ := h
    intro j hj
    cases j with
    | zero => exact hs.seq
    | succ j => simpa using loose_seq hr j (by simpa using hj)
theorem str_ne {xs ys : List Int} (hx : Byt xs) (hy : Byt ys) (h : xs ≠ ys) : ((strOfNums xs).toList == (strOfNums ys).toList) = false := by
  rw [beq_eq_false_iff_ne]
  intro e
  rw [Lib.strOfNums_toList, Lib.strOfNums_toList] at e
  refine h (strOf_inj hx hy ?_)
  unfold strOfNums
  have e2 : xs.map (fun n => UInt8.ofNat n.toNat) = ys.map (fun n => UInt8.ofNat n.toNat) := e
  rw [e2]
theorem loose_len : ∀ {es : List En} {xs last : List Int} {a : Nat}, Loose xs a last es → a + es.length ≤ xs.length
  | [], _, _, _, h => by have : _ = _ := h; simp; omega
  | e :: r, xs, last, a, h => by
    obtain ⟨t, hs, hr⟩ := h
    have h1 := hs.grow
    have h2 := loose_len hr
    rw [List.length_cons]
    omega
theorem ow_lower {B B' : Nat} {w : World} {v : Value} {ps : List Pr} (h : Ow B w v ps) (hB : B' ≤ B) : Ow B' w v ps := by
  refine ⟨?_, h.en, h.apart⟩
  obtain ⟨h1, h2⟩ := h.own
  refine ⟨h1, ?_⟩
  rcases h2 with h2 | ⟨g, cap, cur, hv, hg, r⟩
  · exact .inl h2
  · exact .inr ⟨g, cap, cur, hv, Nat.le_trans hB hg, r⟩
theorem good_chk {es : List En} (h : GoodE es) (hr : risesFrom es = true) : chkB es = 0 := by
  unfold chkB
  rw [all_right h.right, hr, if_pos rfl, if_pos rfl, if_neg (by have := h.len; omega)]
set_option maxHeartbeats 8000000 in
set_option maxRecDepth 100000 in
theorem ref_blockall {w : World} {A : Option Addr} {n c : Nat} {xs : List Int} (h : Rd w .u8 A n c xs) (hc : n ≤ c) (hb : Byt xs) (hn : n ≤ 1000000) : Calls Try.prog 16 #[.slice A n c] w (RAllP xs w) := by
  have hl := h.len
  by_cases h8 : n < 8
  · have hx8 : xs.length < 8 := by omega
    have Hx8 := Kp.mk hx8
    clear h hb hx8
    go_enter Try.func16, Try.ntmps16
    go_wp2_with fail
    go_ret3
    exact ⟨Below.refl _ _, .inl ⟨Hx8.out, rfl⟩⟩
  have hx8 : 8 ≤ xs.length := by omega
  obtain ⟨p, hp⟩ : ∃ p, p = n - 4 := ⟨_, rfl⟩
  have hwp : IntKind.i64.wrap ((n : Int) - 4) = (p : Int) := (IntWalk.i64_in _ (by omega)).trans (by omega)
  have hpn : p ≤ n := by omega
  have hdr : Below w.heap.size w w.drew := (Below.refl _ _).drew
  have hd := h.below hdr
  obtain ⟨A4, hif, hr4⟩ := rd_from hd hc hpn
  have hrp := hd.take hpn
  have HSum : Kp (SumOk xs ↔ xs.drop p = lowB (maskN (crcN (xs.take p))) 4) := ⟨by unfold SumOk sumB; rw [hl, ← hp]⟩
  have H := Kp.mk h
  have HBy := Kp.mk hb
  have Hx8 := Kp.mk hx8
  have HR4 := Kp.mk hr4
  have HRp := Kp.mk hrp
  have Hdr := Kp.mk hdr
  have hpc : p ≤ c := by omega
  have s1 := rd_string hr4
  have HBp := Kp.mk (byt_take hb p)
  have HBd := Kp.mk (byt_drop hb p)
  by_cases hsum : SumOk xs
  · have hse := HSum.out.1 hsum
    have hu2' : strOfNums (lowB (maskN (crcN (xs.take p))) 4) = strOfNums (xs.drop p) := by rw [hse]
    obtain ⟨u1, hu1⟩ : ∃ u, u = strOfNums (xs.drop p) := ⟨_, rfl⟩
    rw [← hu1] at s1 hu2'
    have Hu1 := Kp.mk hu1
    have Hu2 := Kp.mk hu2'
    have Hok := Kp.mk hsum
    obtain ⟨q, hq⟩ : ∃ q, q = n - 8 := ⟨_, rfl⟩
    have hwq : IntKind.i64.wrap ((n : Int) - 8) = (q : Int) := (IntWalk.i64_in _ (by omega)).trans (by omega)
    have hwq' : (n : Int) - 8 = (q : Int) := by omega
    have hwq2 : IntKind.i64.wrap (q : Int) = (q : Int) := IntWalk.i64_in _ (by omega)
    obtain ⟨k, hk⟩ : ∃ k, k = cntB xs := ⟨_, rfl⟩
    have hgn := fun (W : World) (hW : Below w.heap.size w W) => ref_getn (h.below hW) hb (a := q) (m := 4) (by omega) (by omega)
    have hkq : numB ((xs.drop q).take 4) = k := by rw [hk]; unfold cntB; rw [hl, hq]
    rw [hkq] at hgn
    have hk32 : k < 4294967296 := by
      have := numB_at_lt hb q 4
      rw [hkq] at this
      omega
    have HGn := Kp.mk hgn
    obtain ⟨q4, hq4⟩ : ∃ q4, q4 = q / 4 := ⟨_, rfl⟩
    have hd4 : (q : Int) / 4 = (q4 : Int) := by omega
    have hd5 : (q : Int).tdiv 4 = (q4 : Int) := by rw [hq4]; exact Int.ofNat_tdiv q 4
    have hq64 : (q : Int) % 18446744073709551616 = (q : Int) := by omega
    have Hk := Kp.mk hk
    have Hq := Kp.mk hq
    by_cases hkq4 : k ≤ q4
    · obtain ⟨f, hf⟩ : ∃ f, f = q - 4 * k := ⟨_, rfl⟩
      have hw4k : IntKind.i64.wrap (4 * (k : Int)) = ((4 * k : Nat) : Int) := (IntWalk.i64_in _ (by omega)).trans (by omega)
      have hkw : IntKind.i64.wrap (k : Int) = (k : Int) := IntWalk.i64_in _ (by omega)
      have hwf : IntKind.i64.wrap ((q : Int) - ((4 * k : Nat) : Int)) = (f : Int) := (IntWalk.i64_in _ (by omega)).trans (by omega)
      have hwf' : IntKind.i64.wrap ((q : Int) - 4 * (k : Int)) = (f : Int) := (IntWalk.i64_in _ (by omega)).trans (by omega)
      have hfn : f ≤ n := by omega
      have hfc : f ≤ c := by omega
      have hfront : xs.take f = frontOf xs := by unfold frontOf; rw [hl, ← hk, ← hq, ← hf]
      have hlo := fun (W : World) (hW : Below w.heap.size w W) => ref_loose ((h.below hW).take hfn) hfc (byt_take hb f) (by omega)
      rw [hfront] at hlo
      have HLo := Kp.mk hlo
      have Hf := Kp.mk hf
      clear h hb hx8 hr4 hrp hdr hd hu1 hu2' hsum hp hse hgn hkq hq hk hq4 hlo hfront hf
      go_enter Try.func16, Try.ntmps16
      go_wp2_with fail
      go_region_with (first
        | (go_at_call 36; refine (ref_maskedN HRp.out HBp.out).mono ?_; rintro e w1 ⟨Am, nm, cm, rfl, h1, h2⟩; have s2 := rd_string (h1.rd (by rw [lowB_len]; omega)).2.1; rw [Hu2.out] at s2; have s1' := rd_string (HR4.out.below h2); rw [← Hu1.out] at s1'; have HB1 := Kp.mk (Hdr.out.trans (h2.mono Hdr.out.size)); clear h1 h2))
      all_goals
        go_wp2_with (go_at_call 37; refine (HGn.out _ HB1.out).mono ?_; rintro e w2 ⟨rfl, hw2⟩; subst hw2)
        refine (HLo.out _ HB1.out).mono ?_
        rintro e w3 ⟨hb3, (⟨v, ps, hiff, rfl, hO⟩ | ⟨hno, rfl⟩)⟩
        · obtain ⟨Av, cv, rfl⟩ := hO.slice
          have hpl : ps.length ≤ 1000000 := by
            have h1 := loose_len ((hiff _).2 rfl)
            rw [List.length_map] at h1
            have h2 : (frontOf xs).length ≤ xs.length := by unfold frontOf; rw [List.length_take]; omega
            omega
          have hes := (hO.es hpl).2
          obtain ⟨es, hesd⟩ : ∃ es, es = ps.map (fun p : Pr => p.2) := ⟨_, rfl⟩
          obtain ⟨nv, hnv⟩ : ∃ nv, nv = ps.length := ⟨_, rfl⟩
          rw [← hesd] at hes hiff
          rw [← hnv] at hes hO ⊢
          have hmay := ref_may hes
          obtain ⟨k0, hk0⟩ : ∃ k0, k0 = chkB es := ⟨_, rfl⟩
          rw [← hk0] at hmay
          have hseq := loose_seq ((hiff es).2 rfl)
          have HIff := Kp.mk hiff
          have HMay := Kp.mk hmay
          have HEs := Kp.mk hes
          have HB3 := Kp.mk (HB1.out.trans (hb3.mono HB1.out.size))
          have HO3 := Kp.mk (ow_lower hO HB1.out.size)
          have Hesd := Kp.mk hesd
          have Hk0 := Kp.mk hk0
          have Hnv := Kp.mk hnv
          clear hnv
          by_cases hz : k0 = 0
          · subst hz
            obtain ⟨hg, hri⟩ := good_of hes hseq hk0.symm
            have HGd := Kp.mk hg
            have HRi := Kp.mk hri
            clear hes hiff hmay hO hb3 hesd hk0 hseq hg hri
            go_wp2_with (go_at_call 32; refine HMay.out.mono ?_; rintro e w4 ⟨rfl, hb4⟩; have HB4 := Kp.mk (HB3.out.trans (hb4.mono HB3.out.size)); have HO4 := Kp.mk (HO3.out.below hb4); have HE4 := Kp.mk (HEs.out.below hb4); clear hb4)
            go_loopw [8] (fun i wr => ∃ u : Nat, 1 ≤ u ∧ u ≤ 101 ∧ i = .int .i64 u ∧ Kp (∀ y, 1 ≤ y → y < u → xs ≠ buildB y es) ∧ Kp (Below w.heap.size w wr) ∧ Kp (Ow w.heap.size wr (.slice Av nv cv) ps) ∧ Kp (Es wr Av nv cv es)) (fun i _ => 101 - (intOf i).toNat)
            case atStart => exact ⟨1, by omega, by omega, rfl, ⟨fun y h1 h2 => by omega⟩, HB4, HO4, HE4⟩
            case round =>
              obtain ⟨u, hu1, hu2, rfl, HNe, HB5, HO5, HE5⟩ := hrel
              by_cases hu : u ≤ 100
              · have hd5 : Below wr.heap.size wr wr.drew := (Below.refl _ _).drew
                have HBu := Kp.mk (ref_buildl (HE5.out.below hd5) HGd.out hu1 hu)
                have HBd5 := Kp.mk (HB5.out.trans (hd5.mono HB5.out.size))
                have HOd5 := Kp.mk (HO5.out.below hd5)
                have HEd5 := Kp.mk (HE5.out.below hd5)
                have hbl : (buildB u es).length ≤ 44000008 := by
                  have := bodyB_len HGd.out u
                  unfold buildB sumB
                  rw [List.length_append, lowB_len]
                  omega
                have Hbl := Kp.mk hbl
                obtain ⟨sx, hsx⟩ : ∃ sx, sx = strOfNums xs := ⟨_, rfl⟩
                obtain ⟨sb, hsb⟩ : ∃ sb, sb = strOfNums (buildB u es) := ⟨_, rfl⟩
                have Hsx := Kp.mk hsx
                have Hsb := Kp.mk hsb
                have tx := rd_string (H.out.below HBd5.out)
                rw [← hsx] at tx
                by_cases heq : xs = buildB u es
                · have HI : Kp (IsB xs es u) := ⟨⟨HGd.out, HRi.out, hu1, hu, heq⟩⟩
                  have hss : sb = sx := by rw [hsx, hsb, ← heq]
                  subst hss
                  clear hd5 hbl hsx hsb heq
                  go_wp2_with fail
                  go_region_with (first
                    | (go_at_call 33; refine HBu.out.mono ?_; rintro e wb ⟨Ax, nx, cx, rfl, h1, h2⟩; have t2 := rd_string (h1.rd (by have := Hbl.out; omega)).2.1; rw [← Hsb.out] at t2; have t1 := rd_string (H.out.below (HBd5.out.trans (h2.mono HBd5.out.size))); rw [← Hsx.out] at t1; have HB6 := Kp.mk (HBd5.out.trans (h2.mono HBd5.out.size)); have HO6 := Kp.mk (HOd5.out.below h2); clear h1 h2))
                  all_goals
                    go_wp2_with fail
                    go_ret3
                    exact ⟨HB6.out, .inr (.inr (.inr ⟨_, ps, u, by rw [← Hesd.out]; exact HI.out, rfl, HO6.out⟩))⟩
                · have hbb : Byt (buildB u es) := byt_append (bodyB_byt HGd.out u) (lowB_byt _ _)
                  have hn1 := str_ne hbb HBy.out (fun e => heq e.symm)
                  rw [← hsx, ← hsb] at hn1
                  have HNe2 : Kp (∀ y, 1 ≤ y → y < u + 1 → xs ≠ buildB y es) := ⟨fun y h1 h2 => by
                    by_cases hy : y = u
                    · rw [hy]; exact heq
                    · exact HNe.out y h1 (by omega)⟩
                  clear hd5 hbl hsx hsb heq hbb
                  go_wp2_with fail
                  go_region_with (first
                    | (go_at_call 33; refine HBu.out.mono ?_; rintro e wb ⟨Ax, nx, cx, rfl, h1, h2⟩; have t2 := rd_string (h1.rd (by have := Hbl.out; omega)).2.1; rw [← Hsb.out] at t2; have t1 := rd_string (H.out.below (HBd5.out.trans (h2.mono HBd5.out.size))); rw [← Hsx.out] at t1; have HB6 := Kp.mk (HBd5.out.trans (h2.mono HBd5.out.size)); have HO6 := Kp.mk (HOd5.out.below h2); have HE6 := Kp.mk (HEd5.out.below h2); clear h1 h2))
                  all_goals
                    go_wp2_with fail
                    go_roundw
                    case rel => exact ⟨u + 1, by omega, by omega, by go_num, HNe2, HB6, HO6, HE6⟩
                    case measure => simp [intOf]; omega
              · obtain rfl : u = 101 := by omega
                have HNo : Kp (∀ es s, ¬ IsB xs es s) := ⟨fun fs s hI => by
                  have := (HIff.out fs).1 hI.loose
                  subst this
                  exact HNe.out s hI.low (by have := hI.high; omega) hI.eq⟩
                go_wp2_with fail
                go_ret3
                exact ⟨HB5.out, .inr (.inr (.inl ⟨Hx8.out, Hok.out, HNo.out, rfl⟩))⟩
          · have HNo : Kp (∀ es s, ¬ IsB xs es s) := ⟨fun fs s hI => by
              have := (HIff.out fs).1 hI.loose
              subst this
              exact hz (Hk0.out.trans (good_chk hI.good hI.rise))⟩
            have hz1 : (k0 == 0) = false := by simpa using hz
            have hz2 : (k0 != 0) = true := by simpa using hz
            clear hes hiff hmay hO hb3 hesd hk0 hseq hz
            go_wp2_with (go_at_call 32; refine HMay.out.mono ?_; rintro e w4 ⟨rfl, hb4⟩; have HB4 := Kp.mk (HB3.out.trans (hb4.mono HB3.out.size)); clear hb4)
            go_ret3
            exact ⟨HB4.out, .inr (.inr (.inl ⟨Hx8.out, Hok.out, HNo.out, rfl⟩))⟩
        · have HNo : Kp (∀ es s, ¬ IsB xs es s) := ⟨fun es s hI => hno es hI.loose⟩
          have HB3 := Kp.mk (HB1.out.trans (hb3.mono HB1.out.size))
          clear hno hb3
          go_wp2_with fail
          go_ret3
          exact ⟨HB3.out, .inr (.inr (.inl ⟨Hx8.out, Hok.out, HNo.out, rfl⟩))⟩
    · have HNo : Kp (∀ es s, ¬ IsB xs es s) := ⟨fun es s hI => by have := hI.parts.2.2.2.1; have := Hk.out; have := Hq.out; omega⟩
      have hlk : q4 < k := by omega
      clear h hb hx8 hr4 hrp hdr hd hu1 hu2' hsum hp hse hgn hkq hq hk hq4
      go_enter Try.func16, Try.ntmps16
      go_wp2_with fail
      go_region_with (first
        | (go_at_call 36; refine (ref_maskedN HRp.out HBp.out).mono ?_; rintro e w1 ⟨Am, nm, cm, rfl, h1, h2⟩; have s2 := rd_string (h1.rd (by rw [lowB_len]; omega)).2.1; rw [Hu2.out] at s2; have s1' := rd_string (HR4.out.below h2); rw [← Hu1.out] at s1'; have HB1 := Kp.mk (Hdr.out.trans (h2.mono Hdr.out.size)); clear h1 h2))
      all_goals
        go_wp2_with (go_at_call 37; refine (HGn.out _ HB1.out).mono ?_; rintro e w2 ⟨rfl, hw2⟩; subst hw2)
        go_ret3
        exact ⟨HB1.out, .inr (.inr (.inl ⟨Hx8.out, Hok.out, HNo.out, rfl⟩))⟩
  · have hne := str_ne HBd.out (lowB_byt (maskN (crcN (xs.take p))) 4) (fun he => hsum (HSum.out.2 he))
    obtain ⟨u1, hu1⟩ : ∃ u, u = strOfNums (xs.drop p) := ⟨_, rfl⟩
    obtain ⟨u2, hu2⟩ : ∃ u, u = strOfNums (lowB (maskN (crcN (xs.take p))) 4) := ⟨_, rfl⟩
    rw [← hu1] at s1 hne
    rw [← hu2] at hne
    have Hu1 := Kp.mk hu1
    have Hu2 := Kp.mk hu2
    have Hns := Kp.mk hsum
    clear h hb hx8 hr4 hrp hdr hd hu1 hu2 hsum hp
    go_enter Try.func16, Try.ntmps16
    go_wp2_with fail
    go_region_with (first
      | (go_at_call 36; refine (ref_maskedN HRp.out HBp.out).mono ?_; rintro e w1 ⟨Am, nm, cm, rfl, h1, h2⟩; have s2 := rd_string (h1.rd (by rw [lowB_len]; omega)).2.1; rw [← Hu2.out] at s2; have s1' := rd_string (HR4.out.below h2); rw [← Hu1.out] at s1'; have HB1 := Kp.mk (Hdr.out.trans (h2.mono Hdr.out.size)); clear h1 h2))
    all_goals
      go_wp2_with fail
      go_ret3
      exact ⟨HB1.out, .inr (.inl ⟨Hx8.out, Hns.out, rfl⟩)⟩
end Go.Proofs.Ytinffeffffligaa.Bas
