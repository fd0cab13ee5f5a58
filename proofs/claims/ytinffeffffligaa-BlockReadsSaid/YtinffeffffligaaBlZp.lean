import Derived.Test.YtinffeffffligaaBlZo
set_option linter.unusedVariables false
set_option linter.unusedSimpArgs false
namespace Go.Proofs.Ytinffeffffligaa.Bas
open Go.RowKit Go.Maps

/-! ### Seek, and the reference's BlockSeek -/
/-- The bytes of an entry lie in no block of other cells. -/
theorem rd_apart {w : World} {g : Nat} {A : Option Addr} {n c : Nat} {xs : List Int} {t : TypeId} (h : Rd w .u8 A n c xs) (hz : w.heap[g]? = some (.cells #[.slice none 0 0, .int .u64 0, .int .i64 0, .slice none 0 0] t (0, 0))) : ∀ ad, A = some ad → 0 < n → ad.block ≠ g := by
  intro ad e hn hg
  obtain ⟨ad', e', hc⟩ := h.cell hn
  rw [e] at e'
  cases e'
  have h0 := hc 0 hn
  obtain ⟨b, off, rfl⟩ := addr_plain h0
  rw [Addr.add_lit, Nat.add_zero] at h0
  have hb : b = g := hg
  subst hb
  rw [cell_of_row w b off _ t (0, 0) hz] at h0
  match off, h0 with
  | 0, h0 => simp at h0
  | 1, h0 => simp at h0
  | 2, h0 => simp at h0
  | 3, h0 => simp at h0
  | k + 4, h0 => simp at h0
theorem enc_apart {w : World} {g : Nat} {vs : Array Value} {e : En} {t : TypeId} (h : EnC w vs e) (hz : w.heap[g]? = some (.cells #[.slice none 0 0, .int .u64 0, .int .i64 0, .slice none 0 0] t (0, 0))) : ∀ A n c, Value.slice (some A) n c ∈ vs.toList → 0 < n → A.block ≠ g := by
  obtain ⟨A0, n0, c0, A1, n1, c1, rfl, a1, a2, a3, a4⟩ := h
  intro A n c hm hn
  simp at hm
  rcases hm with ⟨e1, e2, e3⟩ | ⟨e1, e2, e3⟩
  · exact rd_apart a1 hz A e1.symm (by omega)
  · exact rd_apart a3 hz A e1.symm (by omega)
theorem first_none {es : List En} {k : Ky} {j : Nat} (h : ∀ i, i < j → keyCmp (es.getD i enD).k k < 0) (hj : keyCmp (es.getD j enD).k k < 0) : ∀ i, i < j + 1 → keyCmp (es.getD i enD).k k < 0 := fun i hi => by
  rcases Nat.lt_or_ge i j with hl | hl
  · exact h i hl
  · obtain rfl : i = j := by omega
    exact hj
set_option maxHeartbeats 4000000 in
set_option maxRecDepth 100000 in
theorem block_seek {w : World} {A : Option Addr} {n c : Nat} {xs : List Int} (h : Rd w .u8 A n c xs) (hc : n ≤ c) (hb : Byt xs) (hn : n ≤ 1000000) {kv : Value} {ky : Ky} (hk : KyV w kv ky) : Calls Try.prog 18 #[.slice A n c, kv] w (SeekQ xs ky w) := by
  obtain ⟨Ak, nk, ck, rfl, hk1, hk2⟩ := hk
  have hba := alloc_below w (.cells #[.slice Ak nk ck, .int .u64 ky.seq, .int .i64 ky.kind] 46)
  have hga := heap_alloc_new w (.cells #[.slice Ak nk ck, .int .u64 ky.seq, .int .i64 ky.kind] 46)
  obtain ⟨W1, hW1⟩ : ∃ W, W = w.alloc (.cells #[.slice Ak nk ck, .int .u64 ky.seq, .int .i64 ky.kind] 46) := ⟨_, rfl⟩
  rw [← hW1] at hba hga
  have hbb := alloc_below W1 (.cells #[.slice none 0 0, .int .u64 0, .int .i64 0, .slice none 0 0] 48)
  have hgb := heap_alloc_new W1 (.cells #[.slice none 0 0, .int .u64 0, .int .i64 0, .slice none 0 0] 48)
  obtain ⟨W2, hW2⟩ : ∃ W, W = W1.alloc (.cells #[.slice none 0 0, .int .u64 0, .int .i64 0, .slice none 0 0] 48) := ⟨_, rfl⟩
  rw [← hW2] at hbb hgb
  obtain ⟨gk, hgk⟩ : ∃ q, q = w.heap.size := ⟨_, rfl⟩
  obtain ⟨gz, hgz⟩ : ∃ q, q = W1.heap.size := ⟨_, rfl⟩
  rw [← hgk] at hga
  rw [← hgz] at hgb
  have hgz1 : gk + 1 = gz := by rw [hgz, hW1, hgk]; simp
  have hGA := (hbb.block _ (lt_of_block hga)).trans hga
  have hB2 := hba.trans (hbb.mono hba.size)
  have HR := Kp.mk (block_all (h.below hB2) hc hb hn)
  have HGA := Kp.mk hGA
  have HGB := Kp.mk hgb
  have HB2 := Kp.mk hB2
  have HK := Kp.mk (hk1.below hB2)
  have HKb := Kp.mk hk2
  have HW1 := Kp.mk hW1
  have HW2 := Kp.mk hW2
  have Hgk := Kp.mk hgk
  have Hgz1 := Kp.mk hgz1
  have HgzW : Kp (w.heap.size ≤ gz) := ⟨by omega⟩
  clear h hb hk1 hk2 hba hga hbb hgb hGA hB2 hW1 hW2 hgk hgz hgz1
  go_enter Try.func18, Try.ntmps18
  go_upto_region 1 with fail
  rewrite [← HW1.out, ← HW2.out, ← Hgk.out, Hgz1.out]
  go_wp2_with fail
  refine HR.out.mono ?_
  rintro e w1 ⟨hb1, hcs⟩
  have hu : ∃ (Ao : Option Addr) (no co : Nat) (es : List En) (er : Int), e = .returned (.tuple #[.slice Ao no co, .int .i64 er]) ∧ Es w1 Ao no co es ∧ ((Bad xs er ∧ es = []) ∨ (er = 0 ∧ ∃ s, IsB xs es s)) := by
    rcases hcs with ⟨cc, hbad, rfl⟩ | ⟨v, ps, s, hI, rfl, how⟩
    · exact ⟨none, 0, 0, [], cc, rfl, ⟨rfl, by omega, fun _ => ⟨rfl, rfl⟩, fun h => absurd h (by omega)⟩, .inl ⟨hbad, rfl⟩⟩
    · obtain ⟨Ao, co, e3⟩ := how.slice
      subst e3
      have hgl := hI.good.len
      rw [List.length_map] at hgl
      exact ⟨Ao, _, co, _, 0, rfl, (how.es (by omega)).2, .inr ⟨rfl, s, hI⟩⟩
  obtain ⟨Ao, no, co, es, er, rfl, hes, hcs⟩ := hu
  have HE1 := Kp.mk hes
  have HCS := Kp.mk hcs
  have hnol := hes.len
  have hnom := hes.max
  have HLE := Kp.mk hnol
  have HB1 := Kp.mk (HB2.out.trans (hb1.mono HB2.out.size))
  have HA1 := Kp.mk ((hb1.block _ (lt_of_block HGA.out)).trans HGA.out)
  have HZ1 := Kp.mk ((hb1.block _ (lt_of_block HGB.out)).trans HGB.out)
  have HK1 := Kp.mk (HK.out.below hb1)
  clear hes hcs hb1 hnol HR
  go_wp2_with fail
  go_loopw [18] (fun i wr => ∃ j : Nat, i = .int .i64 (j : Nat) ∧ j ≤ no ∧ Kp (∀ y, y < j → keyCmp (es.getD y enD).k ky < 0) ∧ Kp (Es wr Ao no co es) ∧ Kp (Below w.heap.size w wr) ∧ Kp (wr.heap[gk]? = some (.cells #[.slice Ak nk ck, .int .u64 ky.seq, .int .i64 ky.kind] 46 (0, 0))) ∧ Kp (wr.heap[gz]? = some (.cells #[.slice none 0 0, .int .u64 0, .int .i64 0, .slice none 0 0] 48 (0, 0))) ∧ Kp (Rd wr .u8 Ak nk ck ky.key)) (fun i _ => no - (intOf i).toNat)
  case atStart => exact ⟨0, rfl, Nat.zero_le _, ⟨fun y hy => absurd hy (Nat.not_lt_zero y)⟩, HE1, HB1, HA1, HZ1, HK1⟩
  case round =>
    obtain ⟨j, rfl, hj, HJ, HE, HB, HA, HZ, HKr⟩ := hrel
    by_cases hlt : j < no
    · have hlt' : ¬ no ≤ j := by omega
      obtain ⟨b, off, hAo, hcq⟩ := HE.out.cell (by omega)
      subst hAo
      obtain ⟨vq, hvq, hcv⟩ := hcq j hlt
      obtain ⟨A0, l0, d0, A0', l0', d0', rfl, a1, a2, a3, a4⟩ := hvq
      obtain ⟨en, hen⟩ : ∃ en, en = es.getD j enD := ⟨_, rfl⟩
      rw [← hen] at hcv a1 a2 a3 a4
      have x0 := hcv 0 _ rfl
      rw [Nat.add_zero] at x0
      have x1 := hcv 1 _ rfl
      have x2 := hcv 2 _ rfl
      have x3 := hcv 3 _ rfl
      obtain ⟨dd, hdd⟩ : ∃ dd, dd = keyCmp en.k ky := ⟨_, rfl⟩
      have hcmp := fun (W : World) (hb : Below wr.heap.size wr W) => key_compare (⟨_, _, _, rfl, a1.below hb, a2⟩ : KyV W (.agg #[.slice A0 l0 d0, .int .u64 en.k.seq, .int .i64 en.k.kind]) en.k) (⟨_, _, _, rfl, HKr.out.below hb, HKb.out⟩ : KyV W (.agg #[.slice Ak nk ck, .int .u64 ky.seq, .int .i64 ky.kind]) ky)
      rw [← hdd] at hcmp
      have HC := Kp.mk hcmp
      have HEC : Kp (EnC wr #[.slice A0 l0 d0, .int .u64 en.k.seq, .int .i64 en.k.kind, .slice A0' l0' d0'] en) := ⟨⟨A0, l0, d0, A0', l0', d0', rfl, a1, a2, a3, a4⟩⟩
      have HEN := Kp.mk hen
      have HDD := Kp.mk hdd
      have k0 := cells_top HA.out 0 (.slice Ak nk ck) rfl
      have k1 := cells_top HA.out 1 (.int .u64 ky.seq) rfl
      have k2 := cells_top HA.out 2 (.int .i64 ky.kind) rfl
      clear hcmp hdd hen a1 a2 a3 a4 hcv hcq
      have hbv := alloc_below wr (.cells #[.slice A0 l0 d0, .int .u64 en.k.seq, .int .i64 en.k.kind, .slice A0' l0' d0'] 48)
      have HBV := Kp.mk hbv
      have k0v := cell_kept hbv k0
      have k1v := cell_kept hbv k1
      have k2v := cell_kept hbv k2
      have HGV := Kp.mk (heap_alloc_new wr (.cells #[.slice A0 l0 d0, .int .u64 en.k.seq, .int .i64 en.k.kind, .slice A0' l0' d0'] 48))
      clear hbv
      go_wp2_with fail
      refine (HC.out _ HBV.out).mono ?_
      rintro e w5 ⟨rfl, hb5⟩
      have HB5 := Kp.mk (HBV.out.trans (hb5.mono HBV.out.size))
      have HG5 := Kp.mk ((hb5.block _ (lt_of_block HGV.out)).trans HGV.out)
      have HZ5 := Kp.mk ((HB5.out.block _ (lt_of_block HZ.out)).trans HZ.out)
      have HBw5 := Kp.mk (HB.out.trans (HB5.out.mono HB.out.size))
      have HEC5 := Kp.mk (HEC.out.below HB5.out)
      clear hb5 x0 x1 x2 x3 k0 k1 k2 k0v k1v k2v
      by_cases hneg : dd < 0
      · have HJ2 := Kp.mk (first_none HJ.out (by rw [← HEN.out, ← HDD.out]; exact hneg))
        have hneg' : ¬ 0 ≤ dd := by omega
        have HA5 := Kp.mk ((HB5.out.block _ (lt_of_block HA.out)).trans HA.out)
        have HE5 := Kp.mk (HE.out.below HB5.out)
        have HK5 := Kp.mk (HKr.out.below HB5.out)
        go_wp2_with fail
        go_roundw
        case rel => exact ⟨j + 1, by go_num, by omega, HJ2, HE5, HBw5, HA5, HZ5, HK5⟩
        case measure => simp [intOf]; omega
      · have hneg' : 0 ≤ dd := by omega
        have HFi : Kp (FirstAt es ky j) := ⟨⟨by have := HLE.out; omega, by rw [← HEN.out, ← HDD.out]; exact hneg', HJ.out⟩⟩
        have HIs : Kp (er = 0 ∧ ∃ s, IsB xs es s) := ⟨by
          rcases HCS.out with ⟨_, h2⟩ | h2
          · have := HLE.out; rw [h2] at this; simp at this; omega
          · exact h2⟩
        have g0 := cells_top HG5.out 0 (.slice A0 l0 d0) rfl
        have g1 := cells_top HG5.out 1 (.int .u64 en.k.seq) rfl
        have g2 := cells_top HG5.out 2 (.int .i64 en.k.kind) rfl
        have g3 := cells_top HG5.out 3 (.slice A0' l0' d0') rfl
        have t0 := cells_top HZ5.out 0 (.slice none 0 0) rfl
        have t1 := cells_top HZ5.out 1 (.int .u64 0) rfl
        have t2 := cells_top HZ5.out 2 (.int .i64 0) rfl
        have t3 := cells_top HZ5.out 3 (.slice none 0 0) rfl
        have f0 := free_top HZ5.out 0
        have f1 := free_top HZ5.out 1
        have f2 := free_top HZ5.out 2
        have f3 := free_top HZ5.out 3
        go_wp2_with fail
        obtain ⟨a4, hfr⟩ := put4 HZ5.out (.slice A0 l0 d0) (.int .u64 en.k.seq) (.int .i64 en.k.kind) (.slice A0' l0' d0')
        have hec := HEC5.out.kept hfr (fun A n c hm hn => enc_apart HEC5.out HZ5.out A n c hm hn)
        obtain ⟨h0, s, hI⟩ := HIs.out
        subst h0
        exact ret_cpp rfl rfl rfl rfl a4 Try.underlying48 rfl (by kernel_rfl) rfl ⟨HBw5.out.trans (hfr.toBelow (fun q hq => by rw [hq]; exact HgzW.out) HBw5.out.size), .inr ⟨es, s, hI, .inl ⟨j, _, HFi.out, by rw [← HEN.out]; exact hec, rfl⟩⟩⟩
    · obtain rfl : no = j := by omega
      have t0 := cells_top HZ.out 0 (.slice none 0 0) rfl
      have t1 := cells_top HZ.out 1 (.int .u64 0) rfl
      have t2 := cells_top HZ.out 2 (.int .i64 0) rfl
      have t3 := cells_top HZ.out 3 (.slice none 0 0) rfl
      have f0 := free_top HZ.out 0
      have f1 := free_top HZ.out 1
      have f2 := free_top HZ.out 2
      have f3 := free_top HZ.out 3
      go_wp2_with fail
      obtain ⟨a4, hfr⟩ := put4 HZ.out (.slice none 0 0) (.int .u64 0) (.int .i64 0) (.slice none 0 0)
      refine ret_cpp rfl rfl rfl rfl a4 Try.underlying48 rfl (by kernel_rfl) rfl ⟨HB.out.trans (hfr.toBelow (fun q hq => by rw [hq]; exact HgzW.out) HB.out.size), ?_⟩
      rcases HCS.out with ⟨h1, _⟩ | ⟨h1, s, hI⟩
      · exact .inl ⟨er, h1, rfl⟩
      · subst h1
        exact .inr ⟨es, s, hI, .inr ⟨fun y hy => HJ.out y (by have := HLE.out; omega), rfl⟩⟩
set_option maxHeartbeats 4000000 in
set_option maxRecDepth 100000 in
theorem ref_blockseek {w : World} {A : Option Addr} {n c : Nat} {xs : List Int} (h : Rd w .u8 A n c xs) (hc : n ≤ c) (hb : Byt xs) (hn : n ≤ 1000000) {kv : Value} {ky : Ky} (hk : KyV w kv ky) : Calls Try.prog 23 #[.slice A n c, kv] w (SeekQ xs ky w) := by
  obtain ⟨Ak, nk, ck, rfl, hk1, hk2⟩ := hk
  have hba := alloc_below w (.cells #[.slice Ak nk ck, .int .u64 ky.seq, .int .i64 ky.kind] 46)
  have hga := heap_alloc_new w (.cells #[.slice Ak nk ck, .int .u64 ky.seq, .int .i64 ky.kind] 46)
  obtain ⟨W1, hW1⟩ : ∃ W, W = w.alloc (.cells #[.slice Ak nk ck, .int .u64 ky.seq, .int .i64 ky.kind] 46) := ⟨_, rfl⟩
  rw [← hW1] at hba hga
  have hbb := alloc_below W1 (.cells #[.slice none 0 0, .int .u64 0, .int .i64 0, .slice none 0 0] 48)
  have hgb := heap_alloc_new W1 (.cells #[.slice none 0 0, .int .u64 0, .int .i64 0, .slice none 0 0] 48)
  obtain ⟨W2, hW2⟩ : ∃ W, W = W1.alloc (.cells #[.slice none 0 0, .int .u64 0, .int .i64 0, .slice none 0 0] 48) := ⟨_, rfl⟩
  rw [← hW2] at hbb hgb
  obtain ⟨gk, hgk⟩ : ∃ q, q = w.heap.size := ⟨_, rfl⟩
  obtain ⟨gz, hgz⟩ : ∃ q, q = W1.heap.size := ⟨_, rfl⟩
  rw [← hgk] at hga
  rw [← hgz] at hgb
  have hgz1 : gk + 1 = gz := by rw [hgz, hW1, hgk]; simp
  have hGA := (hbb.block _ (lt_of_block hga)).trans hga
  have hB2 := hba.trans (hbb.mono hba.size)
  have HR := Kp.mk ((ref_blockall (h.below hB2) hc hb hn).mono fun e w' hq => rallQ hq)
  have HGA := Kp.mk hGA
  have HGB := Kp.mk hgb
  have HB2 := Kp.mk hB2
  have HK := Kp.mk (hk1.below hB2)
  have HKb := Kp.mk hk2
  have HW1 := Kp.mk hW1
  have HW2 := Kp.mk hW2
  have Hgk := Kp.mk hgk
  have Hgz1 := Kp.mk hgz1
  have HgzW : Kp (w.heap.size ≤ gz) := ⟨by omega⟩
  clear h hb hk1 hk2 hba hga hbb hgb hGA hB2 hW1 hW2 hgk hgz hgz1
  go_enter Try.func23, Try.ntmps23
  go_upto_region 1 with fail
  rewrite [← HW1.out, ← HW2.out, ← Hgk.out, Hgz1.out]
  go_wp2_with fail
  refine HR.out.mono ?_
  rintro e w1 ⟨hb1, (⟨cc, hbad, rfl⟩ | ⟨v, ps, s, hI, rfl, how⟩)⟩
  · have HBad := Kp.mk hbad
    have hne : (cc != 0) = true := by simpa using hbad.ne
    have hne2 : (cc == 0) = false := by simpa using hbad.ne
    have HB1 := Kp.mk (HB2.out.trans (hb1.mono HB2.out.size))
    have HZ1 := Kp.mk ((hb1.block _ (lt_of_block HGB.out)).trans HGB.out)
    have t0 := cells_top HZ1.out 0 (.slice none 0 0) rfl
    have t1 := cells_top HZ1.out 1 (.int .u64 0) rfl
    have t2 := cells_top HZ1.out 2 (.int .i64 0) rfl
    have t3 := cells_top HZ1.out 3 (.slice none 0 0) rfl
    have f0 := free_top HZ1.out 0
    have f1 := free_top HZ1.out 1
    have f2 := free_top HZ1.out 2
    have f3 := free_top HZ1.out 3
    clear hb1 hbad
    go_wp2_with fail
    obtain ⟨a4, hfr⟩ := put4 HZ1.out (.slice none 0 0) (.int .u64 0) (.int .i64 0) (.slice none 0 0)
    exact ret_cpp rfl rfl rfl rfl a4 Try.underlying48 rfl (by kernel_rfl) rfl ⟨HB1.out.trans (hfr.toBelow (fun q hq => by rw [hq]; exact HgzW.out) HB1.out.size), .inl ⟨cc, HBad.out, rfl⟩⟩
  · obtain ⟨Ao, co, e3⟩ := how.slice
    subst e3
    have hgl := hI.good.len
    rw [List.length_map] at hgl
    have hes := (how.es (by omega)).2
    obtain ⟨es, hesd⟩ : ∃ es, es = ps.map (fun p : Pr => p.2) := ⟨_, rfl⟩
    obtain ⟨no, hno⟩ : ∃ no, no = ps.length := ⟨_, rfl⟩
    have hes2 : Es w1 Ao no co es := by rw [hno, hesd]; exact hes
    rw [← hesd] at hI
    rw [← hno]
    have hnol := hes2.len
    have hnom := hes2.max
    have HLE := Kp.mk hnol
    have HI := Kp.mk hI
    have HE1 := Kp.mk hes2
    have HB1 := Kp.mk (HB2.out.trans (hb1.mono HB2.out.size))
    have HA1 := Kp.mk ((hb1.block _ (lt_of_block HGA.out)).trans HGA.out)
    have HZ1 := Kp.mk ((hb1.block _ (lt_of_block HGB.out)).trans HGB.out)
    have HK1 := Kp.mk (HK.out.below hb1)
    clear hes hes2 hb1 hnol HR hI how hesd hno hgl
    go_wp2_with fail
    go_loopw [10] (fun i wr => ∃ j : Nat, i = .int .i64 (j : Nat) ∧ j ≤ no ∧ Kp (∀ y, y < j → keyCmp (es.getD y enD).k ky < 0) ∧ Kp (Es wr Ao no co es) ∧ Kp (Below w.heap.size w wr) ∧ Kp (wr.heap[gk]? = some (.cells #[.slice Ak nk ck, .int .u64 ky.seq, .int .i64 ky.kind] 46 (0, 0))) ∧ Kp (wr.heap[gz]? = some (.cells #[.slice none 0 0, .int .u64 0, .int .i64 0, .slice none 0 0] 48 (0, 0))) ∧ Kp (Rd wr .u8 Ak nk ck ky.key)) (fun i _ => no - (intOf i).toNat)
    case atStart => exact ⟨0, rfl, Nat.zero_le _, ⟨fun y hy => absurd hy (Nat.not_lt_zero y)⟩, HE1, HB1, HA1, HZ1, HK1⟩
    case round =>
      obtain ⟨j, rfl, hj, HJ, HE, HB, HA, HZ, HKr⟩ := hrel
      by_cases hlt : j < no
      · have hlt' : ¬ no ≤ j := by omega
        obtain ⟨b, off, hAo, hcq⟩ := HE.out.cell (by omega)
        subst hAo
        obtain ⟨vq, hvq, hcv⟩ := hcq j hlt
        obtain ⟨A0, l0, d0, A0', l0', d0', rfl, a1, a2, a3, a4⟩ := hvq
        obtain ⟨en, hen⟩ : ∃ en, en = es.getD j enD := ⟨_, rfl⟩
        rw [← hen] at hcv a1 a2 a3 a4
        have x0 := hcv 0 _ rfl
        rw [Nat.add_zero] at x0
        have x1 := hcv 1 _ rfl
        have x2 := hcv 2 _ rfl
        have x3 := hcv 3 _ rfl
        obtain ⟨dd, hdd⟩ : ∃ dd, dd = keyCmp en.k ky := ⟨_, rfl⟩
        have hcmp := fun (W : World) (hb : Below wr.heap.size wr W) => ref_key_compare (⟨_, _, _, rfl, a1.below hb, a2⟩ : KyV W (.agg #[.slice A0 l0 d0, .int .u64 en.k.seq, .int .i64 en.k.kind]) en.k) (⟨_, _, _, rfl, HKr.out.below hb, HKb.out⟩ : KyV W (.agg #[.slice Ak nk ck, .int .u64 ky.seq, .int .i64 ky.kind]) ky)
        rw [← hdd] at hcmp
        have HC := Kp.mk hcmp
        have HEC : Kp (EnC wr #[.slice A0 l0 d0, .int .u64 en.k.seq, .int .i64 en.k.kind, .slice A0' l0' d0'] en) := ⟨⟨A0, l0, d0, A0', l0', d0', rfl, a1, a2, a3, a4⟩⟩
        have HEN := Kp.mk hen
        have HDD := Kp.mk hdd
        have k0 := cells_top HA.out 0 (.slice Ak nk ck) rfl
        have k1 := cells_top HA.out 1 (.int .u64 ky.seq) rfl
        have k2 := cells_top HA.out 2 (.int .i64 ky.kind) rfl
        clear hcmp hdd hen a1 a2 a3 a4 hcv hcq
        have X0 := Kp.mk x0
        have X1 := Kp.mk x1
        have X2 := Kp.mk x2
        have X3 := Kp.mk x3
        have x0b := blw_cell x0
        have x1b := blw_cell x1
        have x2b := blw_cell x2
        have k0b := blw_cell k0
        have k1b := blw_cell k1
        have k2b := blw_cell k2
        clear x0 x1 x2 x3 k0 k1 k2
        go_wp2_with fail
        refine wp_region_below (by kernel_rfl) (by kernel_rfl) ?_
        by_cases hneg : dd < 0
        · have hneg' : ¬ 0 ≤ dd := by omega
          repeat (first | go_big_quiet_step ((go_at_call 19; exact calls_blw (HC.out _ (Blw.h _)))) | quiet_step ((go_at_call 19; exact calls_blw (HC.out _ (Blw.h _)))))
          refine wpQuiet_nil ?_
          rintro _ ⟨pz, rfl⟩
          have HJ2 := Kp.mk (first_none HJ.out (by rw [← HEN.out, ← HDD.out]; exact hneg))
          have HB5 := Kp.mk (HB.out.trans (pz.h.mono HB.out.size))
          have HA5 := Kp.mk ((pz.h.block _ (lt_of_block HA.out)).trans HA.out)
          have HZ5 := Kp.mk ((pz.h.block _ (lt_of_block HZ.out)).trans HZ.out)
          have HE5 := Kp.mk (HE.out.below pz.h)
          have HK5 := Kp.mk (HKr.out.below pz.h)
          go_wp2_with fail
          go_roundw
          case rel => exact ⟨j + 1, by go_num, by omega, HJ2, HE5, HB5, HA5, HZ5, HK5⟩
          case measure => simp [intOf]; omega
        · have hneg' : 0 ≤ dd := by omega
          have HFi : Kp (FirstAt es ky j) := ⟨⟨by have := HLE.out; omega, by rw [← HEN.out, ← HDD.out]; exact hneg', HJ.out⟩⟩
          repeat (first | go_big_quiet_step ((go_at_call 19; exact calls_blw (HC.out _ (Blw.h _)))) | quiet_step ((go_at_call 19; exact calls_blw (HC.out _ (Blw.h _)))))
          refine wpQuiet_nil ?_
          rintro _ ⟨pz, rfl⟩
          have HB5 := Kp.mk (HB.out.trans (pz.h.mono HB.out.size))
          have HZ5 := Kp.mk ((pz.h.block _ (lt_of_block HZ.out)).trans HZ.out)
          have HEC5 := Kp.mk (HEC.out.below pz.h)
          have g0 := cell_kept pz.h X0.out
          have g1 := cell_kept pz.h X1.out
          have g2 := cell_kept pz.h X2.out
          have g3 := cell_kept pz.h X3.out
          have t0 := cells_top HZ5.out 0 (.slice none 0 0) rfl
          have t1 := cells_top HZ5.out 1 (.int .u64 0) rfl
          have t2 := cells_top HZ5.out 2 (.int .i64 0) rfl
          have t3 := cells_top HZ5.out 3 (.slice none 0 0) rfl
          have f0 := free_top HZ5.out 0
          have f1 := free_top HZ5.out 1
          have f2 := free_top HZ5.out 2
          have f3 := free_top HZ5.out 3
          clear x0b x1b x2b k0b k1b k2b
          go_wp2_with fail
          obtain ⟨a4, hfr⟩ := put4 HZ5.out (.slice A0 l0 d0) (.int .u64 en.k.seq) (.int .i64 en.k.kind) (.slice A0' l0' d0')
          have hec := HEC5.out.kept hfr (fun A n c hm hn => enc_apart HEC5.out HZ5.out A n c hm hn)
          exact ret_cpp rfl rfl rfl rfl a4 Try.underlying48 rfl (by kernel_rfl) rfl ⟨HB5.out.trans (hfr.toBelow (fun q hq => by rw [hq]; exact HgzW.out) HB5.out.size), .inr ⟨es, s, HI.out, .inl ⟨j, _, HFi.out, by rw [← HEN.out]; exact hec, rfl⟩⟩⟩
      · obtain rfl : no = j := by omega
        have t0 := cells_top HZ.out 0 (.slice none 0 0) rfl
        have t1 := cells_top HZ.out 1 (.int .u64 0) rfl
        have t2 := cells_top HZ.out 2 (.int .i64 0) rfl
        have t3 := cells_top HZ.out 3 (.slice none 0 0) rfl
        have f0 := free_top HZ.out 0
        have f1 := free_top HZ.out 1
        have f2 := free_top HZ.out 2
        have f3 := free_top HZ.out 3
        go_wp2_with fail
        obtain ⟨a4, hfr⟩ := put4 HZ.out (.slice none 0 0) (.int .u64 0) (.int .i64 0) (.slice none 0 0)
        exact ret_cpp rfl rfl rfl rfl a4 Try.underlying48 rfl (by kernel_rfl) rfl ⟨HB.out.trans (hfr.toBelow (fun q hq => by rw [hq]; exact HgzW.out) HB.out.size), .inr ⟨es, s, HI.out, .inr ⟨fun y hy => HJ.out y (by have := HLE.out; omega), rfl⟩⟩⟩
end Go.Proofs.Ytinffeffffligaa.Bas
