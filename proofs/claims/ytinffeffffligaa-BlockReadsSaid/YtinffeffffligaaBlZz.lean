import Derived.Test.YtinffeffffligaaBlZr
import Derived.Test.YtinffeffffligaaBlZt
set_option linter.unusedVariables false
set_option linter.unusedSimpArgs false
namespace Go.Proofs.Ytinffeffffligaa.Bas
open Go.RowKit Go.Maps Go.Deep

/-! ### The law BlockReads -/
set_option maxRecDepth 100000 in
/-- Bytes that came in, and their room. -/
theorem open_bytes4 {H : Type} {enc : TypeId × Value → H} {w : World} {base : Nat} {spare : Nat → Bool} {held : Bool} {fuel : Nat} {cs : List Value} {x : DataW H × List MemPlace} (h : DataW.trod enc Try.prog w base spare held fuel 25 cs = some x) :
    ∃ A n c, cs = [.slice A n c] ∧ n ≤ c ∧ (n ≤ 140737488355328 → ∃ xs, Rd w .u8 A n c xs ∧ Byt xs) := by
  obtain ⟨A, n, c, e, ho⟩ := open_bytes h
  refine ⟨A, n, c, e, ?_, ho⟩
  rcases open_slice1 Try.underlying25 (by kernel_rfl) h with ⟨e2, _⟩ | ⟨a, len, cap, m, k, V, D, Pl, e2, _, hl, _⟩
  · rw [e] at e2
    injection e2 with e2 _
    injection e2 with _ e3 e4
    omega
  · rw [e] at e2
    injection e2 with e2 _
    injection e2 with _ e3 e4
    omega
def ListT (xs : List Int) (es : List En) (er : Int) : Prop := (Bad xs er ∧ es = []) ∨ (er = 0 ∧ ∃ s, IsB xs es s)
theorem ListT.one {xs : List Int} {es fs : List En} {er fr : Int} (h : ListT xs es er) (g : ListT xs fs fr) : es = fs ∧ er = fr := by
  rcases h with ⟨h1, h2⟩ | ⟨h1, s, h2⟩ <;> rcases g with ⟨g1, g2⟩ | ⟨g1, t, g2⟩
  · exact ⟨h2.trans g2.symm, h1.one g1⟩
  · exact (h1.not g2).elim
  · exact (g1.not h2).elim
  · exact ⟨h2.one g2, h1.trans g1.symm⟩
def AllU (xs : List Int) (w : World) (e : Ending) (w' : World) : Prop := Below w.heap.size w w' ∧ ∃ A n c es, ∃ er : Int, e = .returned (.tuple #[.slice A n c, .int .i64 er]) ∧ Es w' A n c es ∧ ListT xs es er
def RAllU (xs : List Int) (w : World) (e : Ending) (w' : World) : Prop := Below w.heap.size w w' ∧ ∃ A n c es, ∃ st er : Int, e = .returned (.tuple #[.slice A n c, .int .i64 st, .int .i64 er]) ∧ Es w' A n c es ∧ ListT xs es er
theorem ow_es {B : Nat} {w : World} {v : Value} {ps : List Pr} {xs : List Int} {s : Nat} (h : Ow B w v ps) (hI : IsB xs (ps.map (fun p : Pr => p.2)) s) : ∃ A c, v = .slice A ps.length c ∧ Es w A ps.length c (ps.map (fun p : Pr => p.2)) := by
  obtain ⟨A, c, e⟩ := h.slice
  subst e
  have hgl := hI.good.len
  rw [List.length_map] at hgl
  exact ⟨A, c, rfl, (h.es (by omega)).2⟩
theorem allU {xs : List Int} {w : World} {e : Ending} {w' : World} (h : AllQ xs w e w') : AllU xs w e w' := by
  obtain ⟨hb, (⟨cc, hbad, he⟩ | ⟨v, ps, s, hI, he, how⟩)⟩ := h
  · exact ⟨hb, none, 0, 0, [], cc, he, es_nil _, .inl ⟨hbad, rfl⟩⟩
  · obtain ⟨A, c, rfl, hes⟩ := ow_es how hI
    exact ⟨hb, A, _, c, _, 0, he, hes, .inr ⟨rfl, s, hI⟩⟩
theorem rallU {xs : List Int} {w : World} {e : Ending} {w' : World} (h : RAllQ xs w e w') : RAllU xs w e w' := by
  obtain ⟨hb, (⟨cc, hbad, he⟩ | ⟨v, ps, s, hI, he, how⟩)⟩ := h
  · exact ⟨hb, none, 0, 0, [], 0, cc, he, es_nil _, .inl ⟨hbad, rfl⟩⟩
  · obtain ⟨A, c, rfl, hes⟩ := ow_es how hI
    exact ⟨hb, A, _, c, _, _, 0, he, hes, .inr ⟨rfl, s, hI⟩⟩
def RstT (xs : List Int) (R : List Int) (er : Int) : Prop := (Bad xs er ∧ R = []) ∨ (er = 0 ∧ (∃ es s, IsB xs es s) ∧ R = intsN (restsOf xs))
theorem RstT.one {xs R S : List Int} {er fr : Int} (h : RstT xs R er) (g : RstT xs S fr) : R = S ∧ er = fr := by
  rcases h with ⟨h1, h2⟩ | ⟨h1, ⟨es, s, h3⟩, h2⟩ <;> rcases g with ⟨g1, g2⟩ | ⟨g1, ⟨fs, t, g3⟩, g2⟩
  · exact ⟨h2.trans g2.symm, h1.one g1⟩
  · exact (h1.not g3).elim
  · exact (g1.not h3).elim
  · exact ⟨h2.trans g2.symm, h1.trans g1.symm⟩
def RstU (xs : List Int) (w : World) (e : Ending) (w' : World) : Prop := Below w.heap.size w w' ∧ ∃ A n c R, ∃ er : Int, e = .returned (.tuple #[.slice A n c, .int .i64 er]) ∧ Rd w' .i64 A n c R ∧ RstT xs R er
theorem rstU {xs : List Int} {w : World} {e : Ending} {w' : World} (hl : xs.length ≤ 1000000) (h : RstQ xs w e w') : RstU xs w e w' := by
  obtain ⟨hb, (⟨cc, hbad, he⟩ | ⟨v, es, s, hI, he, hnu⟩)⟩ := h
  · exact ⟨hb, none, 0, 0, [], cc, he, Rd.nil0 _ _, .inl ⟨hbad, rfl⟩⟩
  · obtain ⟨A, c, rfl⟩ := hnu.slice
    have h1 := endsB_len s es es.length
    have h2 := hI.good.len
    have hr := (hnu.rd (by rw [intsN_len]; omega)).2.1
    refine ⟨hb, A, _, c, _, 0, he, hr, .inr ⟨rfl, ⟨es, s, hI⟩, ?_⟩⟩
    rw [hI.fit.ends]
structure SeekT (xs : List Int) (k : Ky) (en : En) (ok : Bool) (er : Int) : Prop where
  out : (Bad xs er ∧ ok = false ∧ en = enD) ∨ (er = 0 ∧ ∃ es s, IsB xs es s ∧ ((∃ i, FirstAt es k i ∧ en = es.getD i enD ∧ ok = true) ∨ ((∀ j, j < es.length → keyCmp (es.getD j enD).k k < 0) ∧ en = enD ∧ ok = false)))
theorem SeekT.one {xs : List Int} {k : Ky} {en fn : En} {ok pk : Bool} {er fr : Int} (h : SeekT xs k en ok er) (g : SeekT xs k fn pk fr) : en = fn ∧ ok = pk ∧ er = fr := by
  rcases h.out with ⟨h1, h2, h3⟩ | ⟨h1, es, s, h2, h3⟩ <;> rcases g.out with ⟨g1, g2, g3⟩ | ⟨g1, fs, t, g2, g3⟩
  · exact ⟨h3.trans g3.symm, h2.trans g2.symm, h1.one g1⟩
  · exact (h1.not g2).elim
  · exact (g1.not h2).elim
  · obtain rfl := h2.one g2
    rcases h3 with ⟨i, a1, a2, a3⟩ | ⟨a1, a2, a3⟩ <;> rcases g3 with ⟨j, b1, b2, b3⟩ | ⟨b1, b2, b3⟩
    · obtain rfl := a1.one b1
      exact ⟨a2.trans b2.symm, a3.trans b3.symm, h1.trans g1.symm⟩
    · have := b1 i a1.lt
      have := a1.here
      omega
    · have := a1 j b1.lt
      have := b1.here
      omega
    · exact ⟨a2.trans b2.symm, a3.trans b3.symm, h1.trans g1.symm⟩
def SeekU (xs : List Int) (k : Ky) (w : World) (e : Ending) (w' : World) : Prop := Below w.heap.size w w' ∧ ∃ vs en ok, ∃ er : Int, e = .returned (.tuple #[.agg vs, .bool ok, .int .i64 er]) ∧ EnC w' vs en ∧ SeekT xs k en ok er
theorem enc_zero (w : World) : EnC w #[.slice none 0 0, .int .u64 0, .int .i64 0, .slice none 0 0] enD := ⟨none, 0, 0, none, 0, 0, rfl, Rd.nil0 _ _, (fun x hx => by cases hx), Rd.nil0 _ _, (fun x hx => by cases hx)⟩
theorem seekU {xs : List Int} {k : Ky} {w : World} {e : Ending} {w' : World} (h : SeekQ xs k w e w') : SeekU xs k w e w' := by
  obtain ⟨hb, (⟨cc, hbad, he⟩ | ⟨es, s, hI, (⟨i, vs, hf, hec, he⟩ | ⟨hall, he⟩)⟩)⟩ := h
  · exact ⟨hb, _, enD, false, cc, he, enc_zero _, ⟨.inl ⟨hbad, rfl, rfl⟩⟩⟩
  · exact ⟨hb, vs, _, true, 0, he, hec, ⟨.inr ⟨rfl, es, s, hI, .inl ⟨i, hf, rfl, rfl⟩⟩⟩⟩
  · exact ⟨hb, _, enD, false, 0, he, enc_zero _, ⟨.inr ⟨rfl, es, s, hI, .inr ⟨hall, rfl, rfl⟩⟩⟩⟩
set_option maxHeartbeats 2000000 in
set_option maxRecDepth 100000 in
theorem same_ints {w : World} {A A' : Option Addr} {n c n' c' : Nat} {xs : List Int} (h : Rd w .i64 A n c xs) (h' : Rd w .i64 A' n' c' xs) :
    Calls Try.prog 22 #[.slice A n c, .slice A' n' c'] w fun e w' => e = .returned (.bool true) ∧ Below w.heap.size w w' := by
  have hn : n' = n := h'.len.symm.trans h.len
  subst hn
  have hm := h.max
  have H := Kp.mk h
  have H' := Kp.mk h'
  clear h h'
  go_enter Try.func22, Try.ntmps22
  go_wp2_with fail
  go_loopw [5] (fun i wr => ∃ k : Nat, k ≤ n' ∧ i = .int .i64 k ∧ Kp (Below w.heap.size w wr)) (fun i _ => n' - (intOf i).toNat)
  case atStart => exact ⟨0, Nat.zero_le _, rfl, ⟨Below.refl _ _⟩⟩
  case round =>
    obtain ⟨k, hk, rfl, HB⟩ := hrel
    by_cases hlt : k < n'
    · obtain ⟨ad, rfl, c1⟩ := H.out.cell (by omega)
      obtain ⟨ad', rfl, c2⟩ := H'.out.cell (by omega)
      have d1 := blw_cell (cell_kept HB.out (c1 k hlt))
      have d2 := blw_cell (cell_kept HB.out (c2 k hlt))
      obtain ⟨x, hx⟩ : ∃ x, x = xs.getD k 0 := ⟨_, rfl⟩
      rw [← hx] at d1 d2
      clear c1 c2 hx
      go_wp2_with fail
      refine wp_region_below (by kernel_rfl) (by kernel_rfl) ?_
      repeat (first | go_big_quiet_step (fail) | quiet_step (fail))
      refine wpQuiet_nil ?_
      rintro _ ⟨pz, rfl⟩
      have HB1 := Kp.mk (HB.out.trans (pz.h.mono HB.out.size))
      go_wp2_with fail
      go_roundw
      case rel => exact ⟨k + 1, by omega, by go_num, HB1⟩
      case measure => simp [intOf]; omega
    · go_wp2_with fail
      go_ret
      exact ⟨rfl, HB.out⟩
set_option maxHeartbeats 8000000 in
set_option maxRecDepth 100000 in
theorem block_reads {w : World} {A : Option Addr} {n c : Nat} (hnc : n ≤ c) (hx : n ≤ 140737488355328 → ∃ xs, Rd w .u8 A n c xs ∧ Byt xs) {Ak : Option Addr} {nk ck : Nat} {sq kd : Int} (hk : nk ≤ 140737488355328 → ∃ xs, Rd w .u8 Ak nk ck xs ∧ Byt xs) :
    Calls Try.prog 8 #[.slice A n c, .agg #[.slice Ak nk ck, .int .u64 sq, .int .i64 kd]] w fun e w' => e = .returned (.bool true) ∧ Below w.heap.size w w' := by
  have HX := Kp.mk hx
  have HK := Kp.mk hk
  have hba := alloc_below w (.cells #[.slice Ak nk ck, .int .u64 sq, .int .i64 kd] 46)
  have hga := heap_alloc_new w (.cells #[.slice Ak nk ck, .int .u64 sq, .int .i64 kd] 46)
  obtain ⟨W1, hW1⟩ : ∃ W, W = w.alloc (.cells #[.slice Ak nk ck, .int .u64 sq, .int .i64 kd] 46) := ⟨_, rfl⟩
  obtain ⟨gk, hgk⟩ : ∃ q, q = w.heap.size := ⟨_, rfl⟩
  rw [← hW1] at hba hga
  rw [← hgk] at hga
  have HB0 := Kp.mk hba
  have HG0 := Kp.mk hga
  have HW1 := Kp.mk hW1
  have Hgk := Kp.mk hgk
  clear hx hk hba hga hW1 hgk
  go_enter Try.func8, Try.ntmps8
  go_upto_region 1 with fail
  rewrite [← HW1.out, ← Hgk.out]
  go_wp2_with fail
  refine (alive_any W1).mono ?_
  rintro e w1 ⟨rfl, hb1⟩
  have HB1 := Kp.mk (HB0.out.trans (hb1.mono HB0.out.size))
  have HG1 := Kp.mk ((hb1.block _ (lt_of_block HG0.out)).trans HG0.out)
  have k0 := cells_top HG1.out 0 (.slice Ak nk ck) rfl
  clear hb1
  by_cases hn : 1000 < n
  · go_wp2_with fail
    go_ret
    exact ⟨rfl, HB1.out⟩
  by_cases hnk : 300 < nk
  · go_wp2_with fail
    go_ret
    exact ⟨rfl, HB1.out⟩
  obtain ⟨xs, hxr, hxb⟩ := HX.out (by omega)
  obtain ⟨xk, hkr, hkb⟩ := HK.out (by omega)
  have HXR := Kp.mk hxr
  have HXB := Kp.mk hxb
  have HKR := Kp.mk hkr
  have HKB := Kp.mk hkb
  have hxl := hxr.len
  have HXL := Kp.mk hxl
  have HL1 : Kp (n * 1 ≤ 140737488355328) := ⟨by omega⟩
  have HR1 := Kp.mk (hxr.below HB1.out)
  clear hxr hxb hkr hkb hxl
  go_wp2_with (first
    | (at_builtin; go_must (refine wpList_append_new rfl (.const (.slice none 0 0)) (.tmp 37) 25 5 .u8 1 rfl Try.underlying25 Try.infoU8 Nat.one_pos n c xs A rfl rfl HR1.out HL1.out ?_); intro A2 c2 w2 h1 h2; have HB2 := Kp.mk (HB1.out.trans (h2.mono HB1.out.size)); have HG2 := Kp.mk ((h2.block _ (lt_of_block HG1.out)).trans HG1.out); have HAl := Kp.mk ((block_all (h1.rd (by have := HXL.out; omega)).2.1 h1.cap HXB.out (by omega)).mono fun e w' hq => allU hq); clear h1 h2))
  refine HAl.out.mono ?_
  rintro e w3 ⟨hb3, A3, n3, c3, es, er, rfl, hes, hT⟩
  have HB3 := Kp.mk (HB2.out.trans (hb3.mono HB2.out.size))
  have HG3 := Kp.mk ((hb3.block _ (lt_of_block HG2.out)).trans HG2.out)
  have HE3 := Kp.mk hes
  have HT3 := Kp.mk hT
  have HRl := Kp.mk ((ref_blockall (HXR.out.below HB3.out) hnc HXB.out (by omega)).mono fun e w' hq => rallU (rallQ hq))
  clear hb3 hes hT k0
  go_wp2_with fail
  refine HRl.out.mono ?_
  rintro e w4 ⟨hb4, A4, n4, c4, fs, st4, fr, rfl, hfs, hT4⟩
  obtain ⟨rfl, rfl⟩ := HT3.out.one hT4
  have HB4 := Kp.mk (HB3.out.trans (hb4.mono HB3.out.size))
  have HG4 := Kp.mk ((hb4.block _ (lt_of_block HG3.out)).trans HG3.out)
  have HE4 := Kp.mk hfs
  have hn34 : n4 = n3 := hfs.len.symm.trans HE3.out.len
  subst hn34
  have HE34 := Kp.mk (HE3.out.below hb4)
  have HRs := Kp.mk ((block_restarts (HXR.out.below HB4.out) hnc HXB.out (by omega)).mono fun e w' hq => rstU (by have := HXL.out; omega) hq)
  clear hb4 hfs hT4
  go_wp2_with fail
  refine HRs.out.mono ?_
  rintro e w5 ⟨hb5, A5, n5, c5, R5, r5, rfl, hr5, hT5⟩
  have HB5 := Kp.mk (HB4.out.trans (hb5.mono HB4.out.size))
  have HG5 := Kp.mk ((hb5.block _ (lt_of_block HG4.out)).trans HG4.out)
  have HR5 := Kp.mk hr5
  have HT5 := Kp.mk hT5
  have HE345 := Kp.mk (HE34.out.below hb5)
  have HE45 := Kp.mk (HE4.out.below hb5)
  have HRf := Kp.mk ((ref_restarts (HXR.out.below HB5.out) hnc HXB.out (by omega)).mono fun e w' hq => rstU (by have := HXL.out; omega) hq)
  clear hb5 hr5 hT5
  go_wp2_with fail
  refine HRf.out.mono ?_
  rintro e w6 ⟨hb6, A6, n6, c6, R6, r6, rfl, hr6, hT6⟩
  obtain ⟨rfl, rfl⟩ := HT5.out.one hT6
  have HB6 := Kp.mk (HB5.out.trans (hb6.mono HB5.out.size))
  have HG6 := Kp.mk ((hb6.block _ (lt_of_block HG5.out)).trans HG5.out)
  have HR6 := Kp.mk hr6
  have HR56 := Kp.mk (HR5.out.below hb6)
  have HEa := Kp.mk (HE345.out.below hb6)
  have HEb := Kp.mk (HE45.out.below hb6)
  clear hb6 hr6 hT6 HAl HRl HRs HRf
  go_wp2_with (first
    | (go_at_call 13; refine (num_any _ _).mono ?_; rintro e w9 ⟨rfl, hw9⟩; subst hw9)
    | (go_at_call 15; refine (same_entries HEa.out HEb.out).mono ?_; rintro e w7 ⟨rfl, hb7⟩; have HB7 := Kp.mk (HB6.out.trans (hb7.mono HB6.out.size)); have HG7 := Kp.mk ((hb7.block _ (lt_of_block HG6.out)).trans HG6.out); have HR57 := Kp.mk (HR56.out.below hb7); have HR67 := Kp.mk (HR6.out.below hb7); clear hb7)
    | (go_at_call 22; refine (same_ints HR57.out HR67.out).mono ?_; rintro e w8 ⟨rfl, hb8⟩; have HB8 := Kp.mk (HB7.out.trans (hb8.mono HB7.out.size)); have hg8 := (hb8.block _ (lt_of_block HG7.out)).trans HG7.out; have HG8 := Kp.mk hg8; have k0 := cells_top hg8 0 (.slice Ak nk ck) rfl; have k1 := cells_top hg8 1 (.int .u64 sq) rfl; have k2 := cells_top hg8 2 (.int .i64 kd) rfl; have HSk := Kp.mk ((block_seek (HXR.out.below HB8.out) hnc HXB.out (by omega) (⟨_, _, _, rfl, HKR.out.below HB8.out, HKB.out⟩ : KyV _ (.agg #[.slice Ak nk ck, .int .u64 sq, .int .i64 kd]) ⟨xk, sq, kd⟩)).mono fun e w' hq => seekU hq); clear hb8 hg8))
  refine HSk.out.mono ?_
  rintro e wa ⟨hba, vs, en, ok, er2, rfl, hec, hT⟩
  have hec' := hec
  obtain ⟨B0, m0, e0, B1, m1, e1, rfl, _⟩ := hec'
  have HBa := Kp.mk (HB8.out.trans (hba.mono HB8.out.size))
  have hga := (hba.block _ (lt_of_block HG8.out)).trans HG8.out
  have hbx := alloc_below wa (.cells #[.slice B0 m0 e0, .int .u64 en.k.seq, .int .i64 en.k.kind, .slice B1 m1 e1] 48)
  have hgx := heap_alloc_new wa (.cells #[.slice B0 m0 e0, .int .u64 en.k.seq, .int .i64 en.k.kind, .slice B1 m1 e1] 48)
  obtain ⟨Wx, hWx⟩ : ∃ W, W = wa.alloc (.cells #[.slice B0 m0 e0, .int .u64 en.k.seq, .int .i64 en.k.kind, .slice B1 m1 e1] 48) := ⟨_, rfl⟩
  obtain ⟨gx, hgxd⟩ : ∃ q, q = wa.heap.size := ⟨_, rfl⟩
  rw [← hWx] at hbx hgx
  rw [← hgxd] at hgx
  have hgX := (hbx.block _ (lt_of_block hga)).trans hga
  have HBX := Kp.mk (HBa.out.trans (hbx.mono HBa.out.size))
  have HGX := Kp.mk hgX
  have HXX := Kp.mk hgx
  have HECX := Kp.mk (hec.below hbx)
  have HTX := Kp.mk hT
  have HWX := Kp.mk hWx
  have HGXD := Kp.mk hgxd
  have HRk := Kp.mk ((ref_blockseek (HXR.out.below HBX.out) hnc HXB.out (by omega) (⟨_, _, _, rfl, HKR.out.below HBX.out, HKB.out⟩ : KyV _ (.agg #[.slice Ak nk ck, .int .u64 sq, .int .i64 kd]) ⟨xk, sq, kd⟩)).mono fun e w' hq => seekU hq)
  have j0 := cells_top hgX 0 (.slice Ak nk ck) rfl
  have j1 := cells_top hgX 1 (.int .u64 sq) rfl
  have j2 := cells_top hgX 2 (.int .i64 kd) rfl
  clear hba hga hbx hgx hgX hec hT hWx hgxd k0 k1 k2 HSk
  go_upto_region 11 with fail
  rewrite [← HWX.out, ← HGXD.out]
  go_wp2_with fail
  refine HRk.out.mono ?_
  rintro e wb ⟨hbb, us, fn, pk, fr2, rfl, hfc, hT2⟩
  obtain ⟨rfl, rfl, rfl⟩ := HTX.out.one hT2
  have hfc' := hfc
  obtain ⟨C0, l0, d0, C1, l1, d1, rfl, _⟩ := hfc'
  have HBb := Kp.mk (HBX.out.trans (hbb.mono HBX.out.size))
  have hgb := (hbb.block _ (lt_of_block HXX.out)).trans HXX.out
  have hby := alloc_below wb (.cells #[.slice C0 l0 d0, .int .u64 en.k.seq, .int .i64 en.k.kind, .slice C1 l1 d1] 48)
  have hgY := (hby.block _ (lt_of_block hgb)).trans hgb
  have hgy := heap_alloc_new wb (.cells #[.slice C0 l0 d0, .int .u64 en.k.seq, .int .i64 en.k.kind, .slice C1 l1 d1] 48)
  obtain ⟨Wy, hWy⟩ : ∃ W, W = wb.alloc (.cells #[.slice C0 l0 d0, .int .u64 en.k.seq, .int .i64 en.k.kind, .slice C1 l1 d1] 48) := ⟨_, rfl⟩
  obtain ⟨gy, hgyd⟩ : ∃ q, q = wb.heap.size := ⟨_, rfl⟩
  rw [← hWy] at hby hgy hgY
  rw [← hgyd] at hgy
  have HBY := Kp.mk (HBb.out.trans (hby.mono HBb.out.size))
  have HE1 := Kp.mk ((HECX.out.below hbb).below hby)
  have HE2 := Kp.mk (hfc.below hby)
  have HWY := Kp.mk hWy
  have HGYD := Kp.mk hgyd
  have y0 := cells_top hgy 0 (.slice C0 l0 d0) rfl
  have y1 := cells_top hgy 1 (.int .u64 en.k.seq) rfl
  have y2 := cells_top hgy 2 (.int .i64 en.k.kind) rfl
  have y3 := cells_top hgy 3 (.slice C1 l1 d1) rfl
  have x0 := cells_top hgY 0 (.slice B0 m0 e0) rfl
  have x1 := cells_top hgY 1 (.int .u64 en.k.seq) rfl
  have x2 := cells_top hgY 2 (.int .i64 en.k.kind) rfl
  have x3 := cells_top hgY 3 (.slice B1 m1 e1) rfl
  clear hbb hgb hby hgY hgy hfc hT2 hWy hgyd j0 j1 j2 HRk
  go_upto_region 12 with fail
  rewrite [← HWY.out, ← HGYD.out]
  go_wp2_with (first
    | (go_at_call 13; refine (num_any _ _).mono ?_; rintro e w9 ⟨rfl, hw9⟩; subst hw9)
    | (go_at_call 20; refine (same_entry HE1.out HE2.out).mono ?_; rintro e wz ⟨rfl, hbz⟩; have HBZ := Kp.mk (HBY.out.trans (hbz.mono HBY.out.size)); clear hbz))
  go_ret
  exact ⟨rfl, HBZ.out⟩
end Go.Proofs.Ytinffeffffligaa.Bas
