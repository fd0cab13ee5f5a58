import Derived.Test.YtinffeffffligaaBlV
set_option linter.unusedVariables false
set_option linter.unusedSimpArgs false
namespace Go.Proofs.Ytinffeffffligaa.Bas
open Go.RowKit Go.Maps

attribute [local go_sem] max2_int min2_int max_two min_two
/-! ### Build, by the code -/
def intsN (l : List Nat) : List Int := l.map (fun x : Nat => (x : Int))
theorem clamp_mm (s : Int) : min (max 1 s) 100 = (clampN s : Int) := by
  rw [← (clampN_in s).2.2]
  split
  · omega
  · split <;> omega
theorem four_pos : 0 < 4 := by decide
theorem intsN_len (l : List Nat) : (intsN l).length = l.length := by simp [intsN]
theorem ends_lt {es : List En} (h : GoodE es) (s : Nat) : ∀ i, i ≤ es.length → ∀ x ∈ endsB s es i, x ≤ 43900000
  | 0, _ => fun x hx => by cases hx
  | i + 1, hi => fun x hx => by
    have h1 := ends_lt h s i (by omega)
    have h2 := outB_len h s i (by omega)
    have h3 := h.len
    have e1 : endsB s es (i + 1) = if i % s = 0 then endsB s es i ++ [(outB s es i).length] else endsB s es i := rfl
    rw [e1] at hx
    split at hx
    · rcases List.mem_append.1 hx with hx | hx
      · exact h1 x hx
      · rw [List.mem_singleton.1 hx]; omega
    · exact h1 x hx
set_option maxHeartbeats 8000000 in
set_option maxRecDepth 100000 in
theorem build_any {w : World} {A : Option Addr} {n c : Nat} {es : List En} (h : Es w A n c es) (hs : SeqE es) (st : Int) :
    Calls Try.prog 11 #[.slice A n c, .int .i64 st] w (BuildP es st w) := by
  have hchk := check_any h
  obtain ⟨k, hk⟩ : ∃ k, k = chkB es := ⟨_, rfl⟩
  rw [← hk] at hchk
  have HM := Kp.mk hchk
  have Hk := Kp.mk hk
  by_cases h0 : k = 0
  · subst h0
    have hg := (good_of h hs Hk.out.symm).1
    have hm := hg.len
    have hl := h.len
    rw [hl] at hm
    have H := Kp.mk h
    have HG := Kp.mk hg
    have hcm := clamp_mm st
    obtain ⟨hs1, hs2, -⟩ := clampN_in st
    obtain ⟨s, hsq⟩ : ∃ s, s = clampN st := ⟨_, rfl⟩
    rw [← hsq] at hcm hs1 hs2
    obtain ⟨mx, hmx⟩ : ∃ mx : Int, max 1 st = mx := ⟨_, rfl⟩
    rw [hmx] at hcm
    have Hsq := Kp.mk hsq
    clear h hg hs hchk hk hsq
    go_enter Try.func11, Try.ntmps11
    go_wp2_with (go_at_call 24; refine HM.out.mono ?_; rintro e w1 ⟨rfl, hb1⟩; have HB1 := Kp.mk hb1; clear hb1)
    go_loopw [26, 7, 8, 9] (fun i vb vl ve wr => ∃ (j z : Nat) (Ab Ae Al : Option Addr) (nb cb ne ce nl cl : Nat), j ≤ n ∧ i = .int .i64 j ∧ vb = .slice Ab nb cb ∧ ve = .slice Ae ne ce ∧ vl = .slice Al nl cl ∧ w.heap.size ≤ z ∧ z ≤ wr.heap.size ∧
        Kp (Nu .u8 5 z wr (.slice Ab nb cb) (outB s es j)) ∧ Kp (Nu .u32 63 w.heap.size wr (.slice Ae ne ce) (intsN (endsB s es j))) ∧ Kp (∀ q, (Value.slice Ae ne ce).ownBlock = some q → q < z) ∧ Kp (Nu .u8 5 w.heap.size wr (.slice Al nl cl) (lastB es j)) ∧ Kp (Below w.heap.size w wr)) (fun i _ _ _ _ => n - (intOf i).toNat)
    case atStart => exact ⟨0, w.heap.size, none, none, none, 0, 0, 0, 0, 0, 0, Nat.zero_le _, rfl, rfl, rfl, rfl, Nat.le_refl _, HB1.out.size, ⟨Nu.nil _ _ _ _⟩, ⟨Nu.nil _ _ _ _⟩, ⟨fun q hq => by cases hq⟩, ⟨Nu.nil _ _ _ _⟩, HB1⟩
    case round =>
      obtain ⟨j, z, Ab, Ae, Al, nb, cb, ne, ce, nl, cl, hj, rfl, rfl, rfl, rfl, hz1, hz2, HNb, HNe, HEz, HNl, HB⟩ := hrel
      by_cases hlt : j < n
      · obtain ⟨b, off, rfl, hc⟩ := H.out.cell (by omega)
        obtain ⟨us, hu, hu'⟩ := hc j hlt
        obtain ⟨en, hen⟩ : ∃ en, en = es.getD j enD := ⟨_, rfl⟩
        rw [← hen] at hu
        obtain ⟨A0, n0, c0, A0', n0', c0', rfl, a1, a2, a3, a4⟩ := hu
        have hvlo := a3.lt
        have x0 : wr.cell? ⟨b, off + j * 4, none⟩ = some (.slice A0 n0 c0) := cell_kept HB.out (hu' 0 _ rfl)
        have x1 : wr.cell? ⟨b, off + j * 4 + 1, none⟩ = some (.int .u64 en.k.seq) := cell_kept HB.out (hu' 1 _ rfl)
        have x2 : wr.cell? ⟨b, off + j * 4 + 2, none⟩ = some (.int .i64 en.k.kind) := cell_kept HB.out (hu' 2 _ rfl)
        have x3' : wr.cell? ⟨b, off + j * 4 + 3, none⟩ = some (.slice A0' n0' c0') := cell_kept HB.out (hu' 3 _ rfl)
        have hbe := alloc_below wr (.cells #[.slice A0 n0 c0, .int .u64 en.k.seq, .int .i64 en.k.kind, .slice A0' n0' c0'] 48)
        have g0 := heap_alloc_new wr (.cells #[.slice A0 n0 c0, .int .u64 en.k.seq, .int .i64 en.k.kind, .slice A0' n0' c0'] 48)
        obtain ⟨W0, hW0⟩ : ∃ W0, W0 = wr.alloc (.cells #[.slice A0 n0 c0, .int .u64 en.k.seq, .int .i64 en.k.kind, .slice A0' n0' c0'] 48) := ⟨_, rfl⟩
        rw [← hW0] at hbe g0
        obtain ⟨ge, hge⟩ : ∃ ge, ge = wr.heap.size := ⟨_, rfl⟩
        rw [← hge] at g0
        have x3 := cells_top g0 3 (.slice A0' n0' c0') rfl
        have hkey : Calls Try.prog 25 #[.agg #[.slice A0 n0 c0, .int .u64 en.k.seq, .int .i64 en.k.kind]] W0 (NewP (kb en.k) W0) :=
          key_bytesN ⟨A0, n0, c0, rfl, (a1.below HB.out).below hbe, a2⟩ (by rw [hen]; exact (HG.out.right j (by omega)).key) (by rw [hen]; exact HG.out.seq j (by omega))
        have hbl := outB_len HG.out s j (by omega)
        have hel := endsB_len s es j
        have hkl := kbl_le HG.out (show j < es.length by omega)
        have hcl := comB_le s es j
        have hvl := (HG.out.right j (by omega)).len
        rw [← hen] at hkl hcl hvl
        have hvn : en.val.length = n0' := a3.len
        obtain ⟨cN, hcN⟩ : ∃ cN, cN = comB s es j := ⟨_, rfl⟩
        rw [← hcN] at hcl
        obtain ⟨kl, hkl'⟩ : ∃ kl, kl = (kb en.k).length := ⟨_, rfl⟩
        rw [← hkl'] at hkl hcl
        obtain ⟨rl, hrl⟩ : ∃ rl, rl = kl - cN := ⟨_, rfl⟩
        have HOut : Kp (outB s es (j + 1) = outB s es j ++ varB cN ++ varB rl ++ varB n0' ++ (kb en.k).drop cN ++ en.val) := ⟨by
          show outB s es j ++ encE _ _ _ _ = _
          unfold encE
          rw [← hen, ← hcN, ← hkl', ← hrl, hvn]
          simp only [List.append_assoc]⟩
        have HLast : Kp (lastB es (j + 1) = kb en.k) := ⟨by rw [lastB_succ, hen]⟩
        have HKey := Kp.mk hkey
        have HVal := Kp.mk ((a3.below HB.out).below hbe)
        have HCom := Kp.mk hcN
        have Hen := Kp.mk hen
        have Hkl := Kp.mk hkl'
        have Hbl : Kp ((outB s es j).length ≤ 43900000) := ⟨by omega⟩
        have hnv : n0' ≤ 4096 := by omega
        have HNbW := Kp.mk (HNb.out.below hbe)
        have HNeW := Kp.mk (HNe.out.below hbe)
        have HNlW := Kp.mk (HNl.out.below hbe)
        have HBW := Kp.mk (HB.out.trans (hbe.mono HB.out.size))
        have HgeL : Kp (ge < W0.heap.size) := ⟨lt_of_block g0⟩
        have HeL : Kp (∀ q, (Value.slice Ae ne ce).ownBlock = some q → q < W0.heap.size) := ⟨fun q hq => Nat.lt_of_lt_of_le (HEz.out q hq) (Nat.le_trans hz2 hbe.size)⟩
        have y0 := cells_top g0 0 (.slice A0 n0 c0) rfl
        have y1 := cells_top g0 1 (.int .u64 en.k.seq) rfl
        have y2 := cells_top g0 2 (.int .i64 en.k.kind) rfl
        have HW0 := Kp.mk hW0
        have Hge := Kp.mk hge
        have HEge : Kp (∀ q, (Value.slice Ae ne ce).ownBlock = some q → q < ge) := ⟨fun q hq => by rw [hge]; exact Nat.lt_of_lt_of_le (HEz.out q hq) hz2⟩
        have HVlo : Kp (∀ ad, A0' = some ad → 0 < n0' → ad.block < w.heap.size) := ⟨hvlo⟩
        clear hc hu' a1 a2 a3 a4 hkey hcN hen hkl' hvn hbe g0 hW0 hge HNb HNe HNl HB hz1 hz2 hvlo
        have m1 : (cN : Int) % 18446744073709551616 = (cN : Int) := by omega
        have m2 : IntKind.i64.wrap ((kl : Int) - (cN : Int)) = (rl : Int) := (IntWalk.i64_in _ (by omega)).trans (by omega)
        have m3 : (rl : Int) % 18446744073709551616 = (rl : Int) := by omega
        have m4 : (n0' : Int) % 18446744073709551616 = (n0' : Int) := by omega
        have t1 : IntKind.u64.wrap (cN : Int) = (cN : Int) := w64 _ (by omega) (by omega)
        have t2 : IntKind.u64.wrap (kl : Int) = (kl : Int) := w64 _ (by omega) (by omega)
        have t3 : IntKind.u64.wrap (rl : Int) = (rl : Int) := w64 _ (by omega) (by omega)
        have t4 : IntKind.u64.wrap (n0' : Int) = (n0' : Int) := w64 _ (by omega) (by omega)
        have t5 : IntKind.i64.wrap (kl : Int) = (kl : Int) := IntWalk.i64_in _ (by omega)
        by_cases hz : j % s = 0
        · have hrem : (j : Int).tmod (s : Int) = 0 := by have := Int.ofNat_tmod j s; rw [hz] at this; simpa using this.symm
          have hc0 : cN = 0 := by rw [HCom.out]; unfold comB; rw [if_pos hz]
          have hrlk : rl = kl := by omega
          have m6 : (kl : Int) % 18446744073709551616 = (kl : Int) := by omega
          have HOut2 : Kp (outB s es (j + 1) = outB s es j ++ varB 0 ++ varB kl ++ varB n0' ++ (kb en.k) ++ en.val) := ⟨by rw [HOut.out, hc0, hrlk, List.drop_zero]⟩
          have HEnd : Kp (endsB s es (j + 1) = endsB s es j ++ [(outB s es j).length]) := ⟨by show (if j % s = 0 then _ else _) = _; rw [if_pos hz]⟩
          clear m1 m2 m3 t1 t3 hz HOut hrlk hcl hrl HCom HNlW hc0
          have hnb := (HNbW.out.rd (by have := Hbl.out; omega)).1
          have m5 : (nb : Int) % 4294967296 = (nb : Int) := by rw [hnb]; have := Hbl.out; omega
          have Hnb := Kp.mk hnb
          have HEl : Kp ((intsN (endsB s es j)).length ≤ 10000) := ⟨by rw [intsN_len]; omega⟩
          clear hnb hbl hvl
          have HE4 : Kp (((intsN (endsB s es j)).length + 1) * 4 ≤ 140737488355328) := ⟨by have := HEl.out; omega⟩
          go_wp2_with (first
            | (go_at_call 25; go_must (rw [← HW0.out]; refine HKey.out.mono ?_); rintro e w1 ⟨Ak, nk, ck, rfl, h1, h2⟩; have hnk := (h1.rd (by have := Hkl.out; omega)).1; rw [← Hkl.out] at hnk; subst hnk; have HNk1 := Kp.mk h1; have HB1' := Kp.mk (HBW.out.trans (h2.mono HBW.out.size)); have Z1 := Kp.mk h2.size; have x31 := cell_kept h2 x3; have HVal1 := Kp.mk (HVal.out.below h2); have HNb1 := Kp.mk (HNbW.out.below h2); have HNe1 := Kp.mk (HNeW.out.below h2); have HNe1a := Kp.mk (HNe1.out.below (alloc_below w1 (.cells #[.int .u32 (nb : Int)] 63))); have HB1a := Kp.mk (HB1'.out.alloc HB1'.out.size (.cells #[.int .u32 (nb : Int)] 63)); have hal := alloc_below w1 (.cells #[.int .u32 (nb : Int)] 63); have x31a := cell_kept hal x31; have HVal1a := Kp.mk (HVal1.out.below hal); have HNb1a := Kp.mk (HNb1.out.below hal); have HNk1a := Kp.mk (HNk1.out.below hal); have HEb1 : Kp (∀ q, (Value.slice Ae ne ce).ownBlock = some q → q < w1.heap.size) := ⟨fun q hq => Nat.lt_of_lt_of_le (HeL.out q hq) Z1.out⟩; clear hal; clear h1 h2 y0 y1 y2)
            | (at_builtin; go_must (refine wpList_append_nu rfl (.tmp 38) (.tmp 42) 61 63 .u32 4 w.heap.size rfl Try.underlying61 Try.infoU32 four_pos (.slice Ae ne ce) 1 1 (intsN (endsB s es j)) [(nb : Int)] (some ⟨w1.heap.size, 0, none⟩) rfl rfl HNe1a.out (rd_new1 _ _ _ _) HE4.out HB1a.out.size ?_); intro Ae2 ce2 w2 h1 h2 h3; have HNe2 := Kp.mk h1; have hfr : Fr _ w2 (fun q => some q = (Value.slice Ae ne ce).ownBlock) := h2; have HB2 := Kp.mk (HB1a.out.trans h3); have x32 := hfr.cell x31a (fun hS => Nat.lt_irrefl ge (HEge.out ge hS.symm)); have HVal2 := Kp.mk (HVal1a.out.kept hfr (fun ad hA hn hS => by have h1 := HVlo.out ad hA hn; have h2 := HNe1.out.base _ hS.symm; omega)); have HNb2 := Kp.mk (HNb1a.out.kept hfr (fun q hq hS => by have h1 := HNb1.out.base q hq; have h2 := HEz.out q hS.symm; omega)); have HNk2 := Kp.mk (HNk1a.out.kept hfr (fun q hq hS => by have h1 := HNk1.out.base q hq; have h2 := HeL.out q hS.symm; omega)); clear h1 h2 h3 hfr))
          rewrite [← Hge.out]
          have hdr : Below w2.heap.size w2 w2.drew := (Below.refl _ _).drew
          have x32d := cell_kept hdr x32
          have HB2d := Kp.mk (HB2.out.trans (hdr.mono HB2.out.size))
          have HVal2d := Kp.mk (HVal2.out.below hdr)
          have HNb2d := Kp.mk (HNb2.out.below hdr)
          have HNk2d := Kp.mk (HNk2.out.below hdr)
          have HNe2d := Kp.mk (HNe2.out.below hdr)
          clear hdr
          go_region_held3 (fun W => W.cell? ⟨ge, 3, none⟩ = some (.slice A0' n0' c0')) (first | go_keep | exact x32d | exact x33 | exact x34 | exact x35)
            (first | (go_at_call_of 27 (Value.slice Ab nb cb); have hrd := HNb2d.out.rd (by (try simp only [List.length_append]); have := Hbl.out; have v0 := varB_len10 (x := 0) (by omega); have v1 := varB_len10 (x := nk) (by omega); have v2 := varB_len10 (x := n0') (by omega); omega); have hle : (((outB s es j)).length) ≤ 1000000000 := (by (try simp only [List.length_append]); have := Hbl.out; have v0 := varB_len10 (x := 0) (by omega); have v1 := varB_len10 (x := nk) (by omega); have v2 := varB_len10 (x := n0') (by omega); omega); have hcall := putN hrd.2.1 (x := 0) (by omega) (by rw [hrd.1]; exact hle); clear hrd hle; refine hcall.mono ?_; clear hcall; rintro e w3 ⟨Ab3, nb3, cb3, rfl, h1, h2⟩; have HNb3 := Kp.mk h1; have Zb3 := Kp.mk h2.size; have HB3 := Kp.mk (HB2d.out.trans (h2.mono HB2d.out.size)); have x33 := cell_kept h2 x32d; have HVal3 := Kp.mk (HVal2d.out.below h2); have HNk3 := Kp.mk (HNk2d.out.below h2); have HNe3 := Kp.mk (HNe2d.out.below h2); clear h1 h2) | (go_at_call_of 27 (Value.slice Ab3 nb3 cb3); have hrd := HNb3.out.rd (by (try simp only [List.length_append]); have := Hbl.out; have v0 := varB_len10 (x := 0) (by omega); have v1 := varB_len10 (x := nk) (by omega); have v2 := varB_len10 (x := n0') (by omega); omega); have hle : (((outB s es j ++ varB 0)).length) ≤ 1000000000 := (by (try simp only [List.length_append]); have := Hbl.out; have v0 := varB_len10 (x := 0) (by omega); have v1 := varB_len10 (x := nk) (by omega); have v2 := varB_len10 (x := n0') (by omega); omega); have hcall := putN hrd.2.1 (x := nk) (by omega) (by rw [hrd.1]; exact hle); clear hrd hle; refine hcall.mono ?_; clear hcall; rintro e w4 ⟨Ab4, nb4, cb4, rfl, h1, h2⟩; have HNb4 := Kp.mk h1; have Zb4 := Kp.mk h2.size; have HB4 := Kp.mk (HB3.out.trans (h2.mono HB3.out.size)); have x34 := cell_kept h2 x33; have HVal4 := Kp.mk (HVal3.out.below h2); have HNk4 := Kp.mk (HNk3.out.below h2); have HNe4 := Kp.mk (HNe3.out.below h2); clear h1 h2) | (go_at_call_of 27 (Value.slice Ab4 nb4 cb4); have hrd := HNb4.out.rd (by (try simp only [List.length_append]); have := Hbl.out; have v0 := varB_len10 (x := 0) (by omega); have v1 := varB_len10 (x := nk) (by omega); have v2 := varB_len10 (x := n0') (by omega); omega); have hle : (((outB s es j ++ varB 0 ++ varB nk)).length) ≤ 1000000000 := (by (try simp only [List.length_append]); have := Hbl.out; have v0 := varB_len10 (x := 0) (by omega); have v1 := varB_len10 (x := nk) (by omega); have v2 := varB_len10 (x := n0') (by omega); omega); have hcall := putN hrd.2.1 (x := n0') (by omega) (by rw [hrd.1]; exact hle); clear hrd hle; refine hcall.mono ?_; clear hcall; rintro e w5 ⟨Ab5, nb5, cb5, rfl, h1, h2⟩; have HNb5 := Kp.mk h1; have Zb5 := Kp.mk h2.size; have HB5 := Kp.mk (HB4.out.trans (h2.mono HB4.out.size)); have x35 := cell_kept h2 x34; have HVal5 := Kp.mk (HVal4.out.below h2); have HNk5 := Kp.mk (HNk4.out.below h2); have HNe5 := Kp.mk (HNe4.out.below h2); clear h1 h2))
          go_wp2_with fail
          have hbx : ge < w4.heap.size := World.block_lt_of_cell? w4 _ x34
          have HD5 : Kp (Below w5.heap.size w5 w5.drew) := ⟨(Below.refl _ _).drew⟩
          have x35d := cell_kept HD5.out x35
          have HNb5d := Kp.mk (HNb5.out.below HD5.out)
          have hOl : (outB s es j ++ varB 0 ++ varB nk ++ varB n0').length ≤ 43900030 := by simp only [List.length_append]; have := Hbl.out; have v0 := varB_len10 (x := 0) (by omega); have v1 := varB_len10 (x := nk) (by omega); have v2 := varB_len10 (x := n0') (by omega); omega
          have hkle : (kb en.k).length ≤ 264 := by have := Hkl.out; omega
          have HRk : Kp (Rd w5.drew .u8 Ak nk ck (kb en.k)) := ⟨((HNk5.out.below HD5.out).rd (by omega)).2.1⟩
          have hck := HNk5.out.cap
          have HVd := Kp.mk (HVal5.out.below HD5.out)
          have HNed := Kp.mk (HNe5.out.below HD5.out)
          have HNkd := Kp.mk (HNk5.out.below HD5.out)
          have HOl := Kp.mk hOl
          have HKle := Kp.mk hkle
          have HEown : Kp (∀ q, (Value.slice Ae2 ((intsN (endsB s es j)).length + 1) ce2).ownBlock = some q → q < w4.heap.size) := ⟨HNe4.out.lt⟩
          have HKown : Kp (∀ q, (Value.slice Ak nk ck).ownBlock = some q → q < w4.heap.size) := ⟨HNk4.out.lt⟩
          have HVlt : Kp (∀ ad, A0' = some ad → 0 < n0' → ad.block < w4.heap.size) := ⟨HVal4.out.lt⟩
          have Hbx := Kp.mk hbx
          have HB5d : Kp (Below w.heap.size w w5.drew) := ⟨HB5.out.trans (HD5.out.mono HB5.out.size)⟩
          have Hw4 : Kp (w.heap.size ≤ w4.heap.size) := ⟨HB4.out.size⟩
          have Hw45 : Kp (w4.heap.size ≤ w5.drew.heap.size) := ⟨Nat.le_trans Zb5.out HD5.out.size⟩
          have Hml : Kp (nk ≤ 264) := ⟨by have := HNk5.out.rd (by omega); omega⟩
          have Hnv : Kp (n0' ≤ 4096) := ⟨hnv⟩
          clear x3 x31 x32 x32d x33 x34 x35 hbx hOl hkle HNbW HNb1 HNb2 HNb2d HNb3 HNb4 HNeW HNe1 HNk1 HNk2 HNk2d HNk3 HNk4 HVal HVal1 HVal2 HVal2d HVal3 HVal4 x31a HNe1a HNb1a HNk1a HVal1a
          have HL1 : Kp (((outB s es j ++ varB 0 ++ varB nk ++ varB n0').length + nk) * 1 ≤ 140737488355328) := ⟨by have := HOl.out; have := Hml.out; omega⟩
          have HL2 : Kp ((((outB s es j ++ varB 0 ++ varB nk ++ varB n0') ++ (kb en.k)).length + n0') * 1 ≤ 140737488355328) := ⟨by rw [List.length_append]; have := HOl.out; have := Hnv.out; have := HKle.out; have : ((kb en.k)).length ≤ 264 := (by first | exact HKle.out | (rw [List.length_drop]; omega)); omega⟩
          have HVk : Kp (∀ W, Below w4.heap.size w5.drew W → Rd W .u8 A0' n0' c0' en.val) := ⟨fun W hW => HVd.out.kept (fr_belowB hW) (fun ad h1 h2 h3 => by have := HVlt.out ad h1 h2; omega)⟩
          go_region_held3 (fun W => W.cell? ⟨ge, 3, none⟩ = some (.slice A0' n0' c0')) (first | go_keep | exact x35d | exact x36 | exact x37)
            (first | ((refine step_append_nu (w := w5.drew) rfl (.tmp 62) (.tmp 65) 25 5 .u8 1 w4.heap.size rfl Try.underlying25 Try.infoU8 Nat.one_pos (.slice Ab5 nb5 cb5) nk ck (outB s es j ++ varB 0 ++ varB nk ++ varB n0') (kb en.k) Ak rfl rfl HNb5d.out HRk.out HL1.out Hw45.out ?_; intro A6 n6 c6 w6 h1 h2 h3; have HF6 := Kp.mk h3; have HNb6 := Kp.mk h1; have x36 := cell_belowB h3 Hbx.out x35d; clear h1 h2 h3)) | ((refine step_append_nu (w := w6) rfl (.tmp 66) (.tmp 68) 25 5 .u8 1 w4.heap.size rfl Try.underlying25 Try.infoU8 Nat.one_pos (.slice A6 n6 c6) n0' c0' ((outB s es j ++ varB 0 ++ varB nk ++ varB n0') ++ (kb en.k)) en.val A0' rfl rfl HNb6.out (HVk.out w6 HF6.out) HL2.out (Nat.le_trans Hw45.out HF6.out.size) ?_; intro A7 n7 c7 w7 h1 h2 h3; have HF7 := Kp.mk (HF6.out.trans h3); have HNb7 := Kp.mk h1; have x37 := cell_belowB h3 Hbx.out x36; clear h1 h2 h3)))
          have HBe : Kp (Below w.heap.size w w7) := ⟨HB5d.out.trans (HF7.out.mono Hw4.out)⟩
          have HNe7 := Kp.mk (HNed.out.kept (fr_belowB HF7.out) (fun q hq hS => by have := HEown.out q hq; omega))
          have HNk7 := Kp.mk (HNkd.out.kept (fr_belowB HF7.out) (fun q hq hS => by have := HKown.out q hq; omega))
          have HNr : Kp (Nu .u8 5 w4.heap.size w7 (.slice A7 n7 c7) (outB s es (j + 1))) := ⟨by have := HNb7.out; rw [HOut2.out]; simpa only [List.append_assoc] using this⟩
          have HNer : Kp (Nu .u32 63 w.heap.size w7 (.slice Ae2 ((intsN (endsB s es j)).length + 1) ce2) (intsN (endsB s es (j + 1)))) := ⟨by have := HNe7.out; rw [HEnd.out]; unfold intsN at this ⊢; rw [List.map_append, ← Hnb.out]; exact this⟩
          have HNlr : Kp (Nu .u8 5 w.heap.size w7 (.slice Ak nk ck) (lastB es (j + 1))) := ⟨by rw [HLast.out]; exact HNk7.out.lower HBW.out.size⟩
          have hzz : w4.heap.size ≤ w7.heap.size := Nat.le_trans Hw45.out HF7.out.size
          have hww := Hw4.out
          clear HNb5 HNb5d HNb6 HNb7 HNe2 HNe2d HNe3 HNe4 HNe5 HNed HNk5 HNkd HVal5 HVd HOut2 x35d x36 x37
          go_wp2_with fail
          go_roundw
          case rel => exact ⟨j + 1, w4.heap.size, A7, Ae2, Ak, n7, c7, _, ce2, nk, ck, by omega, by go_num, rfl, rfl, rfl, hww, hzz, HNr, HNer, HEown, HNlr, HBe⟩
          case measure => simp [intOf]; omega
        · obtain ⟨r, hr⟩ : ∃ r : Nat, (j : Int).tmod (s : Int) = (r : Int) := ⟨j % s, (Int.ofNat_tmod j s).symm⟩
          have hrz : (r : Int) = ((j % s : Nat) : Int) := by rw [← hr]; exact (Int.ofNat_tmod j s).symm
          have hr0 : ((r : Int) == 0) = false := by simp only [beq_eq_false_iff_ne, ne_eq]; omega
          clear hrz
          have HOut2 := HOut
          have HCm : Kp (comN (lastB es j) (kb en.k) = cN) := ⟨by rw [HCom.out]; unfold comB; rw [if_neg hz, Hen.out]⟩
          have HEnd : Kp (endsB s es (j + 1) = endsB s es j) := ⟨by show (if j % s = 0 then _ else _) = _; rw [if_neg hz]⟩
          have hll : (lastB es j).length ≤ 264 := lastB_len HG.out (by omega)
          clear hz HOut hrl HCom
          have hnb := (HNbW.out.rd (by have := Hbl.out; omega)).1
          have m5 : (nb : Int) % 4294967296 = (nb : Int) := by rw [hnb]; have := Hbl.out; omega
          have Hnb := Kp.mk hnb
          have HEl : Kp ((intsN (endsB s es j)).length ≤ 10000) := ⟨by rw [intsN_len]; omega⟩
          clear hnb hbl hvl
          have HE4 : Kp (((intsN (endsB s es j)).length + 1) * 4 ≤ 140737488355328) := ⟨by have := HEl.out; omega⟩
          go_wp2_with (first
            | (go_at_call 25; go_must (rw [← HW0.out]; refine HKey.out.mono ?_); rintro e w1 ⟨Ak, nk, ck, rfl, h1, h2⟩; have hnk := (h1.rd (by have := Hkl.out; omega)).1; rw [← Hkl.out] at hnk; subst hnk; have HNk1 := Kp.mk h1; have HB1' := Kp.mk (HBW.out.trans (h2.mono HBW.out.size)); have Z1 := Kp.mk h2.size; have x31 := cell_kept h2 x3; have HVal1 := Kp.mk (HVal.out.below h2); have HNb1 := Kp.mk (HNbW.out.below h2); have HNe1 := Kp.mk (HNeW.out.below h2); have HNl1 := Kp.mk (HNlW.out.below h2); clear h1 h2 y0 y1 y2)
            | (go_at_call 26; have hcall := common_any (HNl1.out.rd (by omega)).2.1 (HNk1.out.rd (by have := Hkl.out; omega)).2.1; rw [HCm.out] at hcall; refine hcall.mono ?_; clear hcall; rintro e w2 ⟨rfl, h2⟩; have HB2 := Kp.mk (HB1'.out.trans (h2.mono HB1'.out.size)); have x32 := cell_kept h2 x31; have HVal2 := Kp.mk (HVal1.out.below h2); have HNb2 := Kp.mk (HNb1.out.below h2); have HNk2 := Kp.mk (HNk1.out.below h2); have HNe2 := Kp.mk (HNe1.out.below h2); clear h2))
          rewrite [← Hge.out]
          have hdr : Below w2.heap.size w2 w2.drew := (Below.refl _ _).drew
          have x32d := cell_kept hdr x32
          have HB2d := Kp.mk (HB2.out.trans (hdr.mono HB2.out.size))
          have HVal2d := Kp.mk (HVal2.out.below hdr)
          have HNb2d := Kp.mk (HNb2.out.below hdr)
          have HNk2d := Kp.mk (HNk2.out.below hdr)
          have HNe2d := Kp.mk (HNe2.out.below hdr)
          clear hdr
          go_region_held3 (fun W => W.cell? ⟨ge, 3, none⟩ = some (.slice A0' n0' c0')) (first | go_keep | exact x32d | exact x33 | exact x34 | exact x35)
            (first | (go_at_call_of 27 (Value.slice Ab nb cb); have hrd := HNb2d.out.rd (by (try simp only [List.length_append]); have := Hbl.out; have v0 := varB_len10 (x := cN) (by omega); have v1 := varB_len10 (x := rl) (by omega); have v2 := varB_len10 (x := n0') (by omega); omega); have hle : (((outB s es j)).length) ≤ 1000000000 := (by (try simp only [List.length_append]); have := Hbl.out; have v0 := varB_len10 (x := cN) (by omega); have v1 := varB_len10 (x := rl) (by omega); have v2 := varB_len10 (x := n0') (by omega); omega); have hcall := putN hrd.2.1 (x := cN) (by omega) (by rw [hrd.1]; exact hle); clear hrd hle; refine hcall.mono ?_; clear hcall; rintro e w3 ⟨Ab3, nb3, cb3, rfl, h1, h2⟩; have HNb3 := Kp.mk h1; have Zb3 := Kp.mk h2.size; have HB3 := Kp.mk (HB2d.out.trans (h2.mono HB2d.out.size)); have x33 := cell_kept h2 x32d; have HVal3 := Kp.mk (HVal2d.out.below h2); have HNk3 := Kp.mk (HNk2d.out.below h2); have HNe3 := Kp.mk (HNe2d.out.below h2); clear h1 h2) | (go_at_call_of 27 (Value.slice Ab3 nb3 cb3); have hrd := HNb3.out.rd (by (try simp only [List.length_append]); have := Hbl.out; have v0 := varB_len10 (x := cN) (by omega); have v1 := varB_len10 (x := rl) (by omega); have v2 := varB_len10 (x := n0') (by omega); omega); have hle : (((outB s es j ++ varB cN)).length) ≤ 1000000000 := (by (try simp only [List.length_append]); have := Hbl.out; have v0 := varB_len10 (x := cN) (by omega); have v1 := varB_len10 (x := rl) (by omega); have v2 := varB_len10 (x := n0') (by omega); omega); have hcall := putN hrd.2.1 (x := rl) (by omega) (by rw [hrd.1]; exact hle); clear hrd hle; refine hcall.mono ?_; clear hcall; rintro e w4 ⟨Ab4, nb4, cb4, rfl, h1, h2⟩; have HNb4 := Kp.mk h1; have Zb4 := Kp.mk h2.size; have HB4 := Kp.mk (HB3.out.trans (h2.mono HB3.out.size)); have x34 := cell_kept h2 x33; have HVal4 := Kp.mk (HVal3.out.below h2); have HNk4 := Kp.mk (HNk3.out.below h2); have HNe4 := Kp.mk (HNe3.out.below h2); clear h1 h2) | (go_at_call_of 27 (Value.slice Ab4 nb4 cb4); have hrd := HNb4.out.rd (by (try simp only [List.length_append]); have := Hbl.out; have v0 := varB_len10 (x := cN) (by omega); have v1 := varB_len10 (x := rl) (by omega); have v2 := varB_len10 (x := n0') (by omega); omega); have hle : (((outB s es j ++ varB cN ++ varB rl)).length) ≤ 1000000000 := (by (try simp only [List.length_append]); have := Hbl.out; have v0 := varB_len10 (x := cN) (by omega); have v1 := varB_len10 (x := rl) (by omega); have v2 := varB_len10 (x := n0') (by omega); omega); have hcall := putN hrd.2.1 (x := n0') (by omega) (by rw [hrd.1]; exact hle); clear hrd hle; refine hcall.mono ?_; clear hcall; rintro e w5 ⟨Ab5, nb5, cb5, rfl, h1, h2⟩; have HNb5 := Kp.mk h1; have Zb5 := Kp.mk h2.size; have HB5 := Kp.mk (HB4.out.trans (h2.mono HB4.out.size)); have x35 := cell_kept h2 x34; have HVal5 := Kp.mk (HVal4.out.below h2); have HNk5 := Kp.mk (HNk4.out.below h2); have HNe5 := Kp.mk (HNe4.out.below h2); clear h1 h2))
          go_wp2_with fail
          have hbx : ge < w4.heap.size := World.block_lt_of_cell? w4 _ x34
          have HD5 : Kp (Below w5.heap.size w5 w5.drew) := ⟨(Below.refl _ _).drew⟩
          have x35d := cell_kept HD5.out x35
          have HNb5d := Kp.mk (HNb5.out.below HD5.out)
          have hOl : (outB s es j ++ varB cN ++ varB rl ++ varB n0').length ≤ 43900030 := by simp only [List.length_append]; have := Hbl.out; have v0 := varB_len10 (x := cN) (by omega); have v1 := varB_len10 (x := rl) (by omega); have v2 := varB_len10 (x := n0') (by omega); omega
          have hkle : (kb en.k).length ≤ 264 := by have := Hkl.out; omega
          obtain ⟨Akc, hif, hrk⟩ := rd_from ((HNk5.out.below HD5.out).rd (by omega)).2.1 HNk5.out.cap (show cN ≤ nk from hcl)
          have HRk := Kp.mk hrk
          have hck := HNk5.out.cap
          clear hrk
          have HVd := Kp.mk (HVal5.out.below HD5.out)
          have HNed := Kp.mk (HNe5.out.below HD5.out)
          have HNkd := Kp.mk (HNk5.out.below HD5.out)
          have HOl := Kp.mk hOl
          have HKle := Kp.mk hkle
          have HEown : Kp (∀ q, (Value.slice Ae ne ce).ownBlock = some q → q < w4.heap.size) := ⟨HNe4.out.lt⟩
          have HKown : Kp (∀ q, (Value.slice Ak nk ck).ownBlock = some q → q < w4.heap.size) := ⟨HNk4.out.lt⟩
          have HVlt : Kp (∀ ad, A0' = some ad → 0 < n0' → ad.block < w4.heap.size) := ⟨HVal4.out.lt⟩
          have Hbx := Kp.mk hbx
          have HB5d : Kp (Below w.heap.size w w5.drew) := ⟨HB5.out.trans (HD5.out.mono HB5.out.size)⟩
          have Hw4 : Kp (w.heap.size ≤ w4.heap.size) := ⟨HB4.out.size⟩
          have Hw45 : Kp (w4.heap.size ≤ w5.drew.heap.size) := ⟨Nat.le_trans Zb5.out HD5.out.size⟩
          have Hml : Kp ((nk - cN) ≤ 264) := ⟨by have := HNk5.out.rd (by omega); omega⟩
          have Hnv : Kp (n0' ≤ 4096) := ⟨hnv⟩
          clear x3 x31 x32 x32d x33 x34 x35 hbx hOl hkle HNbW HNb1 HNb2 HNb2d HNb3 HNb4 HNeW HNe1 HNk1 HNk2 HNk2d HNk3 HNk4 HVal HVal1 HVal2 HVal2d HVal3 HVal4 HNl1 HNlW
          have HL1 : Kp (((outB s es j ++ varB cN ++ varB rl ++ varB n0').length + (nk - cN)) * 1 ≤ 140737488355328) := ⟨by have := HOl.out; have := Hml.out; omega⟩
          have HL2 : Kp ((((outB s es j ++ varB cN ++ varB rl ++ varB n0') ++ ((kb en.k).drop cN)).length + n0') * 1 ≤ 140737488355328) := ⟨by rw [List.length_append]; have := HOl.out; have := Hnv.out; have := HKle.out; have : (((kb en.k).drop cN)).length ≤ 264 := (by first | exact HKle.out | (rw [List.length_drop]; omega)); omega⟩
          have HVk : Kp (∀ W, Below w4.heap.size w5.drew W → Rd W .u8 A0' n0' c0' en.val) := ⟨fun W hW => HVd.out.kept (fr_belowB hW) (fun ad h1 h2 h3 => by have := HVlt.out ad h1 h2; omega)⟩
          go_region_held3 (fun W => W.cell? ⟨ge, 3, none⟩ = some (.slice A0' n0' c0')) (first | go_keep | exact x35d | exact x36 | exact x37)
            (first | ((refine step_append_nu (w := w5.drew) rfl (.tmp 62) (.tmp 65) 25 5 .u8 1 w4.heap.size rfl Try.underlying25 Try.infoU8 Nat.one_pos (.slice Ab5 nb5 cb5) (nk - cN) (ck - cN) (outB s es j ++ varB cN ++ varB rl ++ varB n0') ((kb en.k).drop cN) Akc rfl rfl HNb5d.out HRk.out HL1.out Hw45.out ?_; intro A6 n6 c6 w6 h1 h2 h3; have HF6 := Kp.mk h3; have HNb6 := Kp.mk h1; have x36 := cell_belowB h3 Hbx.out x35d; clear h1 h2 h3)) | ((refine step_append_nu (w := w6) rfl (.tmp 66) (.tmp 68) 25 5 .u8 1 w4.heap.size rfl Try.underlying25 Try.infoU8 Nat.one_pos (.slice A6 n6 c6) n0' c0' ((outB s es j ++ varB cN ++ varB rl ++ varB n0') ++ ((kb en.k).drop cN)) en.val A0' rfl rfl HNb6.out (HVk.out w6 HF6.out) HL2.out (Nat.le_trans Hw45.out HF6.out.size) ?_; intro A7 n7 c7 w7 h1 h2 h3; have HF7 := Kp.mk (HF6.out.trans h3); have HNb7 := Kp.mk h1; have x37 := cell_belowB h3 Hbx.out x36; clear h1 h2 h3)))
          have HBe : Kp (Below w.heap.size w w7) := ⟨HB5d.out.trans (HF7.out.mono Hw4.out)⟩
          have HNe7 := Kp.mk (HNed.out.kept (fr_belowB HF7.out) (fun q hq hS => by have := HEown.out q hq; omega))
          have HNk7 := Kp.mk (HNkd.out.kept (fr_belowB HF7.out) (fun q hq hS => by have := HKown.out q hq; omega))
          have HNr : Kp (Nu .u8 5 w4.heap.size w7 (.slice A7 n7 c7) (outB s es (j + 1))) := ⟨by have := HNb7.out; rw [HOut2.out]; simpa only [List.append_assoc] using this⟩
          have HNer : Kp (Nu .u32 63 w.heap.size w7 (.slice Ae ne ce) (intsN (endsB s es (j + 1)))) := ⟨by rw [HEnd.out]; exact HNe7.out⟩
          have HNlr : Kp (Nu .u8 5 w.heap.size w7 (.slice Ak nk ck) (lastB es (j + 1))) := ⟨by rw [HLast.out]; exact HNk7.out.lower HBW.out.size⟩
          have hzz : w4.heap.size ≤ w7.heap.size := Nat.le_trans Hw45.out HF7.out.size
          have hww := Hw4.out
          clear HNb5 HNb5d HNb6 HNb7 HNe2 HNe2d HNe3 HNe4 HNe5 HNed HNk5 HNkd HVal5 HVd HOut2 x35d x36 x37
          go_wp2_with fail
          go_roundw
          case rel => exact ⟨j + 1, w4.heap.size, A7, Ae, Ak, n7, c7, ne, ce, nk, ck, by omega, by go_num, rfl, rfl, rfl, hww, hzz, HNr, HNer, HEown, HNlr, HBe⟩
          case measure => simp [intOf]; omega
      · obtain rfl : n = j := by omega
        obtain ⟨W1, rfl⟩ : ∃ W1, W1 = wr := ⟨_, rfl⟩
        have hOl : (outB s es n).length ≤ 43900000 := by have := outB_len HG.out s n (by omega); omega
        have hel := endsB_len s es n
        have hne := (HNe.out.rd (by rw [intsN_len]; omega)).1
        rw [intsN_len] at hne
        have hre := (HNe.out.rd (by rw [intsN_len]; omega)).2.1
        have HRe := Kp.mk hre
        have HEl := Kp.mk (ends_lt HG.out s n (by omega))
        have HElt : Kp (∀ ad, Ae = some ad → ad.block < z) := ⟨fun ad hA => HEz.out ad.block (by rw [hA]; rfl)⟩
        have HBody : Kp (outB s es n ++ low4s (endsB s es n) ++ lowB ne 4 = bodyB s es) := ⟨by unfold bodyB; rw [hl, ← hne]⟩
        have HbB := Kp.mk (bodyB_byt HG.out s)
        have HbL := Kp.mk (bodyB_len HG.out s)
        have hcl := crcN_lt HbB.out
        obtain ⟨sm, hsm⟩ : ∃ sm, sm = crcN (bodyB s es) := ⟨_, rfl⟩
        have hbu : buildB s es = bodyB s es ++ lowB (maskN sm) 4 := by rw [hsm]; rfl
        rw [← hsm] at hcl
        have hml := maskN_lt sm
        obtain ⟨mk, hmk⟩ : ∃ mk, mk = maskN sm := ⟨_, rfl⟩
        have hmask := fun W => crc_mask W hcl
        rw [← hmk] at hbu hml hmask
        have HMask := Kp.mk hmask
        have HBu := Kp.mk hbu
        have Hsm := Kp.mk hsm
        have Hmk := Kp.mk hmk
        have Hne := Kp.mk hne
        have HOl := Kp.mk hOl
        have m9 : (ne : Int) % 4294967296 = (ne : Int) := by omega
        have hne4 : ne < 4294967296 := by omega
        have hne5 : ne ≤ 10000 := by omega
        have HLen : Kp (∀ q, q ≤ ne → (outB s es n ++ low4s ((endsB s es n).take q)).length ≤ 44000000) := ⟨fun q hq => by rw [List.length_append, low4s_len, List.length_take]; omega⟩
        have Hz1 := Kp.mk hz1
        clear hre hne hel hsm hmk hbu HG H HNl hOl hmask hcl
        go_wp2_with fail
        go_loopw [74, 7] (fun i vb w2 => ∃ (q : Nat) (A2 : Option Addr) (n2 c2 : Nat), q ≤ ne ∧ i = .int .i64 q ∧ vb = .slice A2 n2 c2 ∧ Kp (Nu .u8 5 z w2 (.slice A2 n2 c2) (outB s es n ++ low4s ((endsB s es n).take q))) ∧ Kp (Below z W1 w2)) (fun i _ _ => ne - (intOf i).toNat)
        case atStart => exact ⟨0, Ab, nb, cb, Nat.zero_le _, rfl, rfl, ⟨by rw [List.take_zero, show low4s [] = [] from rfl, List.append_nil]; exact HNb.out⟩, ⟨Below.refl _ _⟩⟩
        case round =>
          obtain ⟨q, A2, n2, c2, hq, rfl, rfl, HN2, HB2⟩ := hrel
          have hzw := Nat.le_trans hz2 HB2.out.size
          by_cases hqn : q < ne
          · have hre2 := HRe.out.kept (fr_belowB HB2.out) (fun ad hA _ hS => by have := HElt.out ad hA; omega)
            obtain ⟨ad, rfl, hcell⟩ := hre2.cell (by omega)
            have x0 := hcell q hqn
            have hq2 : q < (endsB s es n).length := by rw [← Hne.out]; exact hqn
            obtain ⟨x, hx⟩ : ∃ x, x = (endsB s es n).getD q 0 := ⟨_, rfl⟩
            have hxg : (intsN (endsB s es n)).getD q 0 = (x : Int) := by rw [hx]; simp [intsN, List.getD, hq2]
            rw [hxg] at x0
            have hxl : x < 4294967296 := by
              have := HEl.out x (by rw [hx]; simp [List.getD, hq2])
              omega
            have HT : Kp (outB s es n ++ low4s ((endsB s es n).take q) ++ lowB x 4 = outB s es n ++ low4s ((endsB s es n).take (q + 1))) := ⟨by rw [take_getD (d := 0) hq2, low4s_snoc, ← hx, List.append_assoc]⟩
            have hput := put32 HN2.out hzw (Nat.le_trans (HLen.out q hq) (by omega)) hxl
            rw [HT.out] at hput
            have HPut := Kp.mk hput
            clear hput hre2 hcell hx hxg hzw
            go_wp2_with (go_at_call 28; refine HPut.out.mono ?_; rintro e w3 ⟨A3, n3, c3, rfl, h1, h2, h3⟩; have HN3 := Kp.mk h1; have HB3 := Kp.mk (HB2.out.trans h3); clear h1 h2 h3)
            go_roundw
            case rel => exact ⟨q + 1, A3, n3, c3, by omega, by go_num, rfl, HN3, HB3⟩
            case measure => simp [intOf]; omega
          · obtain rfl : ne = q := by omega
            have hT : (endsB s es n).take ne = endsB s es n := by rw [Hne.out]; exact List.take_length
            have hN := HN2.out
            have hL := HLen.out ne (Nat.le_refl _)
            rw [hT] at hN hL
            have hput := put32 hN hzw (Nat.le_trans hL (by omega)) hne4
            rw [HBody.out] at hput
            have HPut := Kp.mk hput
            have Hzw := Kp.mk hzw
            clear hput hT hN hL HN2 hzw
            go_wp2_with (first
              | (go_at_call_of 28 (Value.slice A2 n2 c2); refine HPut.out.mono ?_; rintro e w3 ⟨A3, n3, c3, rfl, h1, h2, h3⟩; have HN3 := Kp.mk h1; have HB3 := Kp.mk (HB2.out.trans h3); have Z3 := Kp.mk (Nat.le_trans Hzw.out h3.size); clear h1 h2 h3)
              | (go_at_call 31; refine (crc_table _).mono ?_; rintro e w4 ⟨g, rfl, h1, h2⟩; have HT4 := Kp.mk h1; have HN4 := Kp.mk (HN3.out.below h2); have HB4 := Kp.mk (HB3.out.trans (h2.mono Z3.out)); have Z4 := Kp.mk (Nat.le_trans Z3.out h2.size); clear h1 h2)
              | (go_at_call 30; have hcall := crc_sum HT4.out (HN4.out.rd (by have := HbL.out; omega)).2.1 HbB.out; rw [← Hsm.out] at hcall; refine hcall.mono ?_; clear hcall; rintro e w5 ⟨rfl, hw5⟩; subst hw5)
              | (go_at_call 29; refine (HMask.out _).mono ?_; rintro e w6 ⟨rfl, hw6⟩; subst hw6)
              | (go_at_call_of 28 (Value.slice A3 n3 c3); have hcall := put32 HN4.out Z4.out (by have := HbL.out; omega) hml; rw [← HBu.out] at hcall; refine hcall.mono ?_; clear hcall; rintro e w7 ⟨A7, n7, c7, rfl, h1, h2, h3⟩; have HN7 := Kp.mk h1; have HB7 := Kp.mk (HB4.out.trans h3); clear h1 h2 h3))
            go_ret2
            exact ⟨HB.out.trans (HB7.out.mono Hz1.out), .inr ⟨Hk.out.symm, A7, n7, c7, rfl, by rw [← Hsq.out]; exact HN7.out.lower Hz1.out⟩⟩
  · have hne : (k == 0) = false := by simpa using h0
    have Hne := Kp.mk h0
    clear h hs hchk hk h0
    go_enter Try.func11, Try.ntmps11
    go_wp2_with (go_at_call 24; refine HM.out.mono ?_; rintro e w1 ⟨rfl, hb1⟩; have HB1 := Kp.mk hb1; clear hb1)
    go_ret2
    exact ⟨HB1.out, .inl ⟨by rw [← Hk.out]; exact Hne.out, by rw [← Hk.out]; rfl⟩⟩
end Go.Proofs.Ytinffeffffligaa.Bas
