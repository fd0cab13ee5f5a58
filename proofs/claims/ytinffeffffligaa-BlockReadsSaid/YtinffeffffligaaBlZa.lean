import Derived.Test.YtinffeffffligaaBlZ
set_option linter.unusedVariables false
set_option linter.unusedSimpArgs false
namespace Go.Proofs.Ytinffeffffligaa.Bas
open Go.RowKit Go.Maps

/-! ### Entries as they stand, by the reference -/
def LooseP (xs : List Int) (w : World) (e : Ending) (w' : World) : Prop :=
  Below w.heap.size w w' ∧ ((∃ v ps, (∀ r, Loose xs 0 [] r ↔ r = ps.map (fun p : Pr => p.2)) ∧ e = .returned (.tuple #[v, .bool true]) ∧ Ow w.heap.size w' v ps) ∨
    ((∀ r, ¬ Loose xs 0 [] r) ∧ e = .returned (.tuple #[.slice none 0 0, .bool false])))
theorem rd_mid {w : World} {k : IntKind} {A : Option Addr} {n c a b : Nat} {xs : List Int} (h : Rd w k A n c xs) (hc : n ≤ c) (hab : a ≤ b) (hb : b ≤ n) : ∃ A', (if c = a then A else Option.map (fun x => x.add a) A) = A' ∧ Rd w k A' (b - a) (c - a) ((xs.drop a).take (b - a)) := by
  obtain ⟨A', h1, h2⟩ := rd_from h hc (show a ≤ n by omega)
  exact ⟨A', h1, h2.take (by omega)⟩
/-- A new entry: its key's and its value's bytes are rows of the call's own. -/
theorem enc_new {wa : World} {B B' : Nat} {o : Obj} {Ak Aw : Option Addr} {nk ck nw cw : Nat} {k : Ky} {ys mv : List Int} (hk : Nu .u8 5 B wa (.slice Ak nk ck) k.key) (hv : Nu .u8 5 B' wa (.slice Aw nw cw) ys) (hb : Byt k.key) (hm : Byt mv) (he : ys = mv) (hl : k.key.length ≤ 1000000 ∧ mv.length ≤ 1000000) :
    EnC (wa.alloc o) #[.slice Ak nk ck, .int .u64 k.seq, .int .i64 k.kind, .slice Aw nw cw] ⟨k, mv⟩ := by
  subst he
  exact ⟨Ak, nk, ck, Aw, nw, cw, rfl, ((hk.rd (by omega)).2.1).below (alloc_below _ _), hb, ((hv.rd (by omega)).2.1).below (alloc_below _ _), hm⟩
theorem enc_far {w1 w2 : World} {B B' : Nat} {Ak Aw : Option Addr} {nk ck nw cw : Nat} {k : Ky} {ys : List Int} (hk : Nu .u8 5 B w1 (.slice Ak nk ck) k.key) (hv : Nu .u8 5 B' w2 (.slice Aw nw cw) ys) (hB : B ≤ B') :
    ∀ A n c, Value.slice (some A) n c ∈ (#[.slice Ak nk ck, .int .u64 k.seq, .int .i64 k.kind, .slice Aw nw cw] : Array Value).toList → B ≤ A.block := by
  intro A n c hm
  simp at hm
  rcases hm with ⟨h1, _, _⟩ | ⟨h1, _, _⟩
  · exact hk.base A.block (by rw [← h1]; rfl)
  · exact Nat.le_trans hB (hv.base A.block (by rw [← h1]; rfl))
set_option maxHeartbeats 8000000 in
set_option maxRecDepth 100000 in
theorem ref_loose {w : World} {A : Option Addr} {n c : Nat} {xs : List Int} (h : Rd w .u8 A n c xs) (hc : n ≤ c) (hb : Byt xs) (hn : n ≤ 1000000) : Calls Try.prog 38 #[.slice A n c] w (LooseP xs w) := by
  have hl := h.len
  have H := Kp.mk h
  have HBy := Kp.mk hb
  clear h hb
  go_enter Try.func38, Try.ntmps38
  go_wp2_with fail
  go_loopw [6, 4, 5] (fun i vo vl wr => ∃ (a : Nat) (last : List Int) (ps : List Pr) (Ao Al : Option Addr) (no co nl cl : Nat), a ≤ n ∧ i = .int .i64 a ∧ vo = .slice Ao no co ∧ vl = .slice Al nl cl ∧ ps.length ≤ a ∧ nl ≤ 264 ∧ nl ≤ cl ∧ Kp (last.length = nl) ∧ Kp (Byt last) ∧
      Kp (Ow w.heap.size wr (.slice Ao no co) ps) ∧ Kp (Nu .u8 5 w.heap.size wr (.slice Al nl cl) last) ∧ Kp (SoFar xs (ps.map (fun p : Pr => p.2)) a last) ∧ Kp (Below w.heap.size w wr)) (fun i _ _ _ => n - (intOf i).toNat)
  case atStart => exact ⟨0, [], [], none, none, 0, 0, 0, 0, Nat.zero_le _, rfl, rfl, rfl, Nat.zero_le _, Nat.zero_le _, Nat.zero_le _, ⟨rfl⟩, ⟨fun x hx => by cases hx⟩, ⟨Ow.nil _ _⟩, ⟨Nu.nil _ _ _ _⟩, ⟨soFar_none xs⟩, ⟨Below.refl _ _⟩⟩
  case round =>
    obtain ⟨a, last, ps, Ao, Al, no, co, nl, cl, ha, rfl, rfl, rfl, hpa, hnl, hncl, HLl, HLb, HO, HNl, HS, HB⟩ := hrel
    by_cases hlt : a < n
    · have hax : a < xs.length := by omega
      have hv1 := (ref_get (H.out.below HB.out) HBy.out (a := a) (by omega)).mono fun e w' hq => getQ hq
      have m1 : (nl : Int) % 18446744073709551616 = (nl : Int) := by omega
      have HV1 := Kp.mk hv1
      clear hv1
      go_wp2_with fail
      refine HV1.out.mono ?_
      rintro e w1 ⟨hw1, x1, t1, r1, rfl, hcs⟩
      subst hw1
      have Hc1 := Kp.mk hcs
      clear hcs HV1
      by_cases hr1 : r1 = 0
      · subst hr1
        have hV1 : VarAt xs a x1 t1 := by
          rcases Hc1.out with ⟨_, hv⟩ | ⟨hr, _⟩
          · exact hv
          · exact absurd rfl hr
        have ht1 : t1 ≤ n := by have := hV1.le; omega
        have HV1 := Kp.mk hV1
        clear Hc1 hV1
        by_cases hx1 : x1 ≤ nl
        · have hv2 := (ref_get (H.out.below HB.out) HBy.out ht1).mono fun e w' hq => getQ hq
          have HV2 := Kp.mk hv2
          clear hv2
          go_wp2_with fail
          refine HV2.out.mono ?_
          rintro e w2 ⟨hw2, x2, t2, r2, rfl, hcs⟩
          subst hw2
          have Hc2 := Kp.mk hcs
          clear hcs HV2
          by_cases hr2 : r2 = 0
          · subst hr2
            have hV2 : VarAt xs t1 x2 t2 := by
              rcases Hc2.out with ⟨_, hv⟩ | ⟨hr, _⟩
              · exact hv
              · exact absurd rfl hr
            have ht2 : t2 ≤ n := by have := hV2.le; omega
            have hx2l := hV2.lt
            have HV2 := Kp.mk hV2
            clear Hc2 hV2
            have hv3 := (ref_get (H.out.below HB.out) HBy.out ht2).mono fun e w' hq => getQ hq
            have HV3 := Kp.mk hv3
            clear hv3
            go_wp2_with fail
            refine HV3.out.mono ?_
            rintro e w3 ⟨hw3, x3, t3, r3, rfl, hcs⟩
            subst hw3
            have Hc3 := Kp.mk hcs
            clear hcs HV3
            by_cases hr3 : r3 = 0
            · subst hr3
              have hV3 : VarAt xs t2 x3 t3 := by
                rcases Hc3.out with ⟨_, hv⟩ | ⟨hr, _⟩
                · exact hv
                · exact absurd rfl hr
              have ht3 : t3 ≤ n := by have := hV3.le; omega
              have hx3l := hV3.lt
              have HV3 := Kp.mk hV3
              clear Hc3 hV3
              obtain ⟨d, hd⟩ : ∃ d, d = n - t3 := ⟨_, rfl⟩
              have hwd : IntKind.i64.wrap ((n : Int) - (t3 : Int)) = (d : Int) := (IntWalk.i64_in _ (by omega)).trans (by omega)
              have hd64 : (d : Int) % 18446744073709551616 = (d : Int) := by omega
              by_cases hx2 : x2 ≤ d
              · obtain ⟨q, hq⟩ : ∃ q, q = d - x2 := ⟨_, rfl⟩
                have hwq : IntKind.u64.wrap ((d : Int) - (x2 : Int)) = (q : Int) := (w64 _ (by omega) (by omega)).trans (by omega)
                have hwq' : ((d : Int) - (x2 : Int)) % 18446744073709551616 = (q : Int) := by omega
                by_cases hx3 : x3 ≤ q
                · have LT : Kp (LThree xs last a x1 x2 x3 t1 t2 t3) := ⟨⟨HV1.out, HV2.out, HV3.out, by have := HLl.out; omega, by omega⟩⟩
                  obtain ⟨s, hs⟩ : ∃ s, s = t3 + x2 := ⟨_, rfl⟩
                  obtain ⟨t, ht⟩ : ∃ t, t = s + x3 := ⟨_, rfl⟩
                  have hsn : s ≤ n := by omega
                  have htn : t ≤ n := by omega
                  have hts : t3 ≤ s := by omega
                  have hst : s ≤ t := by omega
                  have zz1 : IntKind.i64.wrap (x2 : Int) = (x2 : Int) := IntWalk.i64_in _ (by omega)
                  have zz2 : IntKind.i64.wrap (x3 : Int) = (x3 : Int) := IntWalk.i64_in _ (by omega)
                  have zz3 : IntKind.i64.wrap ((t3 : Int) + (x2 : Int)) = (s : Int) := (IntWalk.i64_in _ (by omega)).trans (by omega)
                  have zz4 : IntKind.i64.wrap ((s : Int) + (x3 : Int)) = (t : Int) := (IntWalk.i64_in _ (by omega)).trans (by omega)
                  have zz5 : (t3 : Int) + (x2 : Int) = (s : Int) := by omega
                  have zz6 : (s : Int) + (x3 : Int) = (t : Int) := by omega
                  have zz7 : IntKind.i64.wrap (s : Int) = (s : Int) := IntWalk.i64_in _ (by omega)
                  have zz8 : IntKind.i64.wrap (t : Int) = (t : Int) := IntWalk.i64_in _ (by omega)
                  have pp1 : (t3 : Int) ≤ (s : Int) := by omega
                  have pp2 : (s : Int) ≤ (c : Int) := by omega
                  have pp3 : (s : Int) ≤ (t : Int) := by omega
                  have pp4 : (t : Int) ≤ (c : Int) := by omega
                  have hdr : Below w3.heap.size w3 w3.drew := (Below.refl _ _).drew
                  have HRx := Kp.mk (H.out.below HB.out)
                  have HRx1 := Kp.mk (HRx.out.below hdr)
                  obtain ⟨Am, hif, hrm⟩ := rd_mid HRx1.out hc hts hsn
                  obtain ⟨Av, hif2, hrv⟩ := rd_mid HRx1.out hc hst htn
                  have hsm : s - t3 = x2 := by omega
                  have htm : t - s = x3 := by omega
                  have HRm := Kp.mk hrm
                  have HRv := Kp.mk hrv
                  have HNl1 := Kp.mk (HNl.out.below hdr)
                  have hlr := (HNl1.out.rd (by have := HLl.out; omega)).2.1
                  have HRl := Kp.mk (hlr.take (m := x1) hx1)
                  obtain ⟨ky, hky⟩ : ∃ ky, ky = last.take x1 ++ (xs.drop t3).take (s - t3) := ⟨_, rfl⟩
                  have hkyb : Byt ky := by rw [hky]; exact byt_append (byt_take HLb.out _) (byt_take (byt_drop HBy.out _) _)
                  have hkyl : ky.length ≤ 1000300 := by
                    rw [hky, List.length_append, List.length_take, List.length_take, List.length_drop]; omega
                  have HKy := Kp.mk hky
                  have HKb := Kp.mk hkyb
                  have HKl := Kp.mk hkyl
                  have HB1 := Kp.mk (HB.out.trans (hdr.mono HB.out.size))
                  have HO1 := Kp.mk (HO.out.below hdr)
                  have HO1lt : ∀ q, (Value.slice Ao no co).ownBlock = some q → q < w3.drew.heap.size := own_blk_lt HO1.out.own
                  have hcl : x1 ≤ cl := by omega
                  have hcs : s ≤ c := by omega
                  have hct : t ≤ c := by omega
                  have HL1 : Kp ((([] : List Int).length + x1) * 1 ≤ 140737488355328) := ⟨by simp; omega⟩
                  have HL2 : Kp ((([] ++ last.take x1 : List Int).length + (s - t3)) * 1 ≤ 140737488355328) := ⟨by rw [List.nil_append, List.length_take]; omega⟩
                  have Hs := Kp.mk hs
                  have Ht := Kp.mk ht
                  have Hsm := Kp.mk hsm
                  have Htm := Kp.mk htm
                  clear hs ht hsm htm hd hq hrm hrv hlr hky hkyb hkyl hdr HRx HNl HO HB HNl1
                  go_wp2_with fail
                  go_region_held3 (fun _ => True) (trivial)
                    (first
                      | ((refine step_append_nu (w := w3.drew) rfl (.const (.slice none 0 0)) (.tmp 79) 25 5 .u8 1 w3.drew.heap.size rfl Try.underlying25 Try.infoU8 Nat.one_pos (.slice none 0 0) x1 cl [] (last.take x1) Al rfl rfl (Nu.nil _ _ _ _) HRl.out HL1.out (Nat.le_refl _) ?_; intro A6 n6 c6 w6 h1 h2 h3; have HF6 := Kp.mk h3; have HN6 := Kp.mk h1; have HRm6 := Kp.mk (HRm.out.below h3); clear h1 h2 h3))
                      | ((refine step_append_nu (w := w6) rfl (.tmp 80) (.tmp 87) 25 5 .u8 1 w3.drew.heap.size rfl Try.underlying25 Try.infoU8 Nat.one_pos (.slice A6 n6 c6) (s - t3) (c - t3) ([] ++ last.take x1) ((xs.drop t3).take (s - t3)) Am rfl rfl HN6.out HRm6.out HL2.out HF6.out.size ?_; intro A7 n7 c7 w7 h1 h2 h3; have HF7 := Kp.mk (HF6.out.trans h3); have HN7 := Kp.mk h1; clear h1 h2 h3)))
                  have HNk : Kp (Nu .u8 5 w3.drew.heap.size w7 (.slice A7 n7 c7) ky) := ⟨by have := HN7.out; rw [List.nil_append, ← HKy.out] at this; exact this⟩
                  have HB7 := Kp.mk (HB1.out.trans (HF7.out.mono HB1.out.size))
                  have HO7 := Kp.mk (HO1.out.below HF7.out)
                  have HRv7 := Kp.mk (HRv.out.below HF7.out)
                  have hrk := ref_readkey (HNk.out.rd (by have := HKl.out; omega)).2.1 HNk.out.cap HKb.out
                  have HRk := Kp.mk hrk
                  clear HN6 HN7 HRm6 HRm HRl hrk HO1 HRv HRx1
                  go_wp2_with fail
                  refine HRk.out.mono ?_
                  rintro e w8 ⟨hb8, (⟨Ak, nk, ck, k, rfl, hkb, hrk, hk0, hbk, hnu⟩ | ⟨r, hr, rfl, hno⟩)⟩
                  · obtain ⟨mv, hmv⟩ : ∃ mv, mv = (xs.drop s).take (t - s) := ⟨_, rfl⟩
                    have hstep : LStep xs last a ⟨k, mv⟩ t := ⟨⟨x1, x2, x3, t1, t2, t3, LT.out, by rw [hkb, HKy.out, Hsm.out], by rw [hmv, Htm.out, Hs.out], by have := Hs.out; have := Ht.out; omega⟩, hrk, hk0⟩
                    have hgr := hstep.grow
                    have HS2 := Kp.mk (HS.out.step hax hstep)
                    have hkl := hrk.len
                    have hkyn := kb_len k
                    have hn7 := (HNk.out.rd (by have := HKl.out; omega)).1
                    rw [hkb] at hkyn
                    have hn7l : n7 ≤ 264 := by omega
                    have hpt : ps.length + 1 ≤ t := by omega
                    have hcap7 := HNk.out.cap
                    have Hn7 := Kp.mk hn7.symm
                    have HS3 : Kp (SoFar xs (ps.map (fun p : Pr => p.2) ++ [⟨k, mv⟩]) t ky) := ⟨by have := HS2.out; rw [hkb] at this; exact this⟩
                    have hps : ps.length + 1 ≤ 2000000 := by omega
                    have Hps := Kp.mk hps
                    have HmvE : Kp (([] ++ (xs.drop s).take (t - s) : List Int) = mv) := ⟨by rw [List.nil_append, hmv]⟩
                    have HmvL : Kp (k.key.length ≤ 1000000 ∧ mv.length ≤ 1000000) := ⟨by omega, by rw [hmv, List.length_take, List.length_drop]; omega⟩
                    have Hmvb : Kp (Byt mv) := ⟨by rw [hmv]; exact byt_take (byt_drop HBy.out _) _⟩
                    have Hbk := Kp.mk hbk
                    have hb9 := alloc_below w8 (.cells #[.slice Ak nk ck, .int .u64 k.seq, .int .i64 k.kind] 46)
                    have g9 := heap_alloc_new w8 (.cells #[.slice Ak nk ck, .int .u64 k.seq, .int .i64 k.kind] 46)
                    obtain ⟨W9, hW9⟩ : ∃ W9, W9 = w8.alloc (.cells #[.slice Ak nk ck, .int .u64 k.seq, .int .i64 k.kind] 46) := ⟨_, rfl⟩
                    rw [← hW9] at hb9 g9
                    have hdr9 : Below W9.heap.size W9 W9.drew := (Below.refl _ _).drew
                    have HB8 := Kp.mk (HB7.out.trans (hb8.mono HB7.out.size))
                    have HB9 := Kp.mk (HB8.out.trans (hb9.mono HB8.out.size))
                    have HBd := Kp.mk (HB9.out.trans (hdr9.mono HB9.out.size))
                    have hOL : ∀ q, (Value.slice Ao no co).ownBlock = some q → q < w7.heap.size := own_blk_lt HO7.out.own
                    have HOL := Kp.mk hOL
                    have HOd := Kp.mk (((HO7.out.below hb8).below hb9).below hdr9)
                    have HRvd := Kp.mk (((HRv7.out.below hb8).below hb9).below hdr9)
                    have HKd := Kp.mk ((hnu.below hb9).below hdr9)
                    have HNkd := Kp.mk (((HNk.out.below hb8).below hb9).below hdr9)
                    have Hb8 := Kp.mk hb8.size
                    have Hb9 := Kp.mk hb9.size
                    have Hgz : Kp (w7.heap.size ≤ w8.heap.size) := ⟨hb8.size⟩
                    have gd := (hdr9.block _ (lt_of_block g9)).trans g9
                    have y0 := cells_top gd 0 (.slice Ak nk ck) rfl
                    have y1 := cells_top gd 1 (.int .u64 k.seq) rfl
                    have y2 := cells_top gd 2 (.int .i64 k.kind) rfl
                    obtain ⟨gz, hgz⟩ : ∃ gz, gz = w8.heap.size := ⟨_, rfl⟩
                    rw [← hgz] at y0 y1 y2
                    have HgzO : Kp (∀ q, (Value.slice Ao no co).ownBlock = some q → q ≠ gz) := ⟨fun q hq => by have := HOL.out q hq; have := Hgz.out; omega⟩
                    have HgzW := Kp.mk hgz
                    have HW9 := Kp.mk hW9
                    have HW97 : Kp (w7.heap.size ≤ W9.drew.heap.size) := ⟨Nat.le_trans Hb8.out (Nat.le_trans Hb9.out hdr9.size)⟩
                    have HL3 : Kp ((([] : List Int).length + (t - s)) * 1 ≤ 140737488355328) := ⟨by simp; omega⟩
                    have HNkL : Kp (∀ q, (Value.slice Ao no co).ownBlock = some q → q < w3.drew.heap.size) := ⟨HO1lt⟩
                    clear hstep hkl hkyn hn7 hps hbk hb9 g9 hdr9 hOL gd hgz hW9 hb8 hnu hkb hrk hk0 HO7 HRv7 HNk HS HS2 hmv
                    go_wp2_with fail
                    rewrite [← HW9.out, ← HgzW.out]
                    go_region_held3 (fun W => W.cell? ⟨gz, 0, none⟩ = some (.slice Ak nk ck) ∧ W.cell? ⟨gz, 1, none⟩ = some (.int .u64 k.seq) ∧ W.cell? ⟨gz, 2, none⟩ = some (.int .i64 k.kind)) (first | go_keep | exact ⟨y0, y1, y2⟩ | exact ⟨y0a, y1a, y2a⟩ | exact ⟨y0b, y1b, y2b⟩ | exact ⟨y0c, y1c, y2c⟩)
                      (first
                        | ((refine step_append_nu (w := W9.drew) rfl (.const (.slice none 0 0)) (.tmp 111) 25 5 .u8 1 W9.drew.heap.size rfl Try.underlying25 Try.infoU8 Nat.one_pos (.slice none 0 0) (t - s) (c - s) [] ((xs.drop s).take (t - s)) Av rfl rfl (Nu.nil _ _ _ _) HRvd.out HL3.out (Nat.le_refl _) ?_; intro Aw nw cw wa h1 h2 h3; have HFa := Kp.mk h3; have HNa := Kp.mk h1; have y0a := cell_kept h3 y0; have y1a := cell_kept h3 y1; have y2a := cell_kept h3 y2; have hal := alloc_below wa (.cells #[.slice Ak nk ck, .int .u64 k.seq, .int .i64 k.kind, .slice Aw nw cw] 48); have y0b := cell_kept hal y0a; have y1b := cell_kept hal y1a; have y2b := cell_kept hal y2a; have HOb := Kp.mk ((HOd.out.below h3).below hal); have HEb : Kp (EnC (wa.alloc (.cells #[.slice Ak nk ck, .int .u64 k.seq, .int .i64 k.kind, .slice Aw nw cw] 48)) #[.slice Ak nk ck, .int .u64 k.seq, .int .i64 k.kind, .slice Aw nw cw] ⟨k, mv⟩) := ⟨enc_new (HKd.out.below h3) HNa.out Hbk.out Hmvb.out HmvE.out HmvL.out⟩; have HCb : Kp (∀ (i : Nat) (u : Value), (#[.slice Ak nk ck, .int .u64 k.seq, .int .i64 k.kind, .slice Aw nw cw] : Array Value)[i]? = some u → (wa.alloc (.cells #[.slice Ak nk ck, .int .u64 k.seq, .int .i64 k.kind, .slice Aw nw cw] 48)).cell? ((⟨wa.heap.size, 0, none⟩ : Addr).add i) = some u) := ⟨fun i u hu => (by rw [Addr.add_lit, Nat.zero_add]; exact cells_top (heap_alloc_new wa _) i u hu)⟩; have HAb : Kp (∀ A n c, Value.slice (some A) n c ∈ (#[.slice Ak nk ck, .int .u64 k.seq, .int .i64 k.kind, .slice Aw nw cw] : Array Value).toList → 0 < n → some A.block ≠ (Value.slice Ao no co).ownBlock) := ⟨fun A n c hm _ he => Nat.lt_irrefl _ (Nat.lt_of_lt_of_le (HOL.out A.block he.symm) (enc_far HKd.out HNa.out HW97.out A n c hm))⟩; have HBb : Kp (w.heap.size ≤ (wa.alloc (.cells #[.slice Ak nk ck, .int .u64 k.seq, .int .i64 k.kind, .slice Aw nw cw] 48)).heap.size) := ⟨Nat.le_trans HBd.out.size (Nat.le_trans h3.size hal.size)⟩; have HNkb := Kp.mk ((HNkd.out.below h3).below hal); have HBBb := Kp.mk (HBd.out.trans ((h3.trans (hal.mono h3.size)).mono HBd.out.size)); clear h1 h2 h3 hal))
                        | ((refine step_append_ow (w := wa.alloc (.cells #[.slice Ak nk ck, .int .u64 k.seq, .int .i64 k.kind, .slice Aw nw cw] 48)) rfl (.tmp 103) (.tmp 114) rfl (.slice Ao no co) ps _ ⟨k, mv⟩ ⟨wa.heap.size, 0, none⟩ 1 rfl rfl HOb.out HEb.out HAb.out HCb.out Hps.out HBb.out ?_; intro Az nz cz wz h1 h2 h3; have HOz := Kp.mk h1; have HBz := Kp.mk (HBBb.out.trans h3); have y0c := h2.cell y0b (fun hS => HgzO.out gz hS.symm rfl); have y1c := h2.cell y1b (fun hS => HgzO.out gz hS.symm rfl); have y2c := h2.cell y2b (fun hS => HgzO.out gz hS.symm rfl); have HNz := Kp.mk (HNkb.out.kept h2 (fun q hq hS => Nat.lt_irrefl q (Nat.lt_of_lt_of_le (HNkL.out q hS.symm) (HNkb.out.base q hq)))); clear h1 h2 h3)))
                    have HNlz := Kp.mk (HNz.out.lower HB1.out.size)
                    have HSz : Kp (SoFar xs ((ps ++ [((#[.slice Ak nk ck, .int .u64 k.seq, .int .i64 k.kind, .slice Aw nw cw] : Array Value), (⟨k, mv⟩ : En))]).map (fun p : Pr => p.2)) t ky) := ⟨by rw [List.map_append]; exact HS3.out⟩
                    have hpl : (ps ++ [((#[.slice Ak nk ck, .int .u64 k.seq, .int .i64 k.kind, .slice Aw nw cw] : Array Value), (⟨k, mv⟩ : En))]).length ≤ t := by rw [List.length_append, List.length_singleton]; exact hpt
                    have Hpl := Kp.mk hpl
                    clear y0 y1 y2 y0a y1a y2a y0b y1b y2b y0c y1c y2c hpl HNz HNkb HNkd HOd HOb HEb HCb HAb HNa HKd HRvd HS3
                    go_wp2_with fail
                    go_roundw
                    case rel => exact ⟨t, ky, _, Az, A7, nz, cz, n7, c7, htn, by go_num, rfl, rfl, Hpl.out, hn7l, hcap7, Hn7, HKb, HOz, HNlz, HSz, HBz⟩
                    case measure => simp [intOf]; omega
                  · have HNo : Kp (∀ r, ¬ Loose xs 0 [] r) := ⟨HS.out.fails hax (fun e t hst => by
                      obtain ⟨y1, y2, y3, s1, s2, s3, L, hk, _⟩ := hst.out
                      obtain ⟨rfl, rfl⟩ := HV1.out.one L.v1
                      obtain ⟨rfl, rfl⟩ := HV2.out.one L.v2
                      obtain ⟨rfl, rfl⟩ := HV3.out.one L.v3
                      exact hno e.k hst.right hst.seq (by rw [hk, HKy.out, Hsm.out]))⟩
                    have hra : (r == 0) = false := by simpa using hr
                    have hrb : (r != 0) = true := by simpa using hr
                    have HB8 := Kp.mk (HB7.out.trans (hb8.mono HB7.out.size))
                    have HB9 := Kp.mk (HB8.out.alloc HB8.out.size (.cells #[.slice none 0 0, .int .u64 0, .int .i64 0] 46))
                    clear hno hr hb8
                    go_wp2_with fail
                    go_ret2
                    exact ⟨HB9.out, .inr ⟨HNo.out, rfl⟩⟩
                · have HNo : Kp (∀ r, ¬ Loose xs 0 [] r) := ⟨HS.out.fails hax (fun e t hst => by
                    obtain ⟨y1, y2, y3, s1, s2, s3, L, _⟩ := hst.out
                    obtain ⟨rfl, rfl⟩ := HV1.out.one L.v1
                    obtain ⟨rfl, rfl⟩ := HV2.out.one L.v2
                    obtain ⟨rfl, rfl⟩ := HV3.out.one L.v3
                    have := L.room
                    omega)⟩
                  have hlq : q < x3 := by omega
                  clear hq hd
                  go_wp2_with fail
                  go_ret2
                  exact ⟨HB.out, .inr ⟨HNo.out, rfl⟩⟩
              · have HNo : Kp (∀ r, ¬ Loose xs 0 [] r) := ⟨HS.out.fails hax (fun e t hst => by
                  obtain ⟨y1, y2, y3, s1, s2, s3, L, _⟩ := hst.out
                  obtain ⟨rfl, rfl⟩ := HV1.out.one L.v1
                  obtain ⟨rfl, rfl⟩ := HV2.out.one L.v2
                  obtain ⟨rfl, rfl⟩ := HV3.out.one L.v3
                  have := L.room
                  omega)⟩
                have hlq : d < x2 := by omega
                clear hd
                go_wp2_with fail
                go_ret2
                exact ⟨HB.out, .inr ⟨HNo.out, rfl⟩⟩
            · have HNo : Kp (∀ r, ¬ Loose xs 0 [] r) := ⟨HS.out.fails hax (fun e t hst => by
                obtain ⟨y1, y2, y3, s1, s2, s3, L, _⟩ := hst.out
                obtain ⟨rfl, rfl⟩ := HV1.out.one L.v1
                obtain ⟨rfl, rfl⟩ := HV2.out.one L.v2
                rcases Hc3.out with ⟨hr, _⟩ | ⟨_, hn⟩
                · exact hr3 hr
                · exact hn _ _ L.v3)⟩
              have hra : (r3 == 0) = false := by simpa using hr3
              have hrb : (r3 != 0) = true := by simpa using hr3
              clear Hc3 hr3
              go_wp2_with fail
              go_ret2
              exact ⟨HB.out, .inr ⟨HNo.out, rfl⟩⟩
          · have HNo : Kp (∀ r, ¬ Loose xs 0 [] r) := ⟨HS.out.fails hax (fun e t hst => by
              obtain ⟨y1, y2, y3, s1, s2, s3, L, _⟩ := hst.out
              obtain ⟨rfl, rfl⟩ := HV1.out.one L.v1
              rcases Hc2.out with ⟨hr, _⟩ | ⟨_, hn⟩
              · exact hr2 hr
              · exact hn _ _ L.v2)⟩
            have hra : (r2 == 0) = false := by simpa using hr2
            have hrb : (r2 != 0) = true := by simpa using hr2
            clear Hc2 hr2
            go_wp2_with fail
            go_ret2
            exact ⟨HB.out, .inr ⟨HNo.out, rfl⟩⟩
        · have HNo : Kp (∀ r, ¬ Loose xs 0 [] r) := ⟨HS.out.fails hax (fun e t hst => by
            obtain ⟨y1, y2, y3, s1, s2, s3, L, _⟩ := hst.out
            obtain ⟨rfl, rfl⟩ := HV1.out.one L.v1
            have := L.l1
            have := HLl.out
            omega)⟩
          have hlx : nl < x1 := by omega
          go_wp2_with fail
          go_ret2
          exact ⟨HB.out, .inr ⟨HNo.out, rfl⟩⟩
      · have HNo : Kp (∀ r, ¬ Loose xs 0 [] r) := ⟨HS.out.fails hax (fun e t hst => by
          obtain ⟨y1, y2, y3, s1, s2, s3, L, _⟩ := hst.out
          rcases Hc1.out with ⟨hr, _⟩ | ⟨_, hn⟩
          · exact hr1 hr
          · exact hn _ _ L.v1)⟩
        have hra : (r1 == 0) = false := by simpa using hr1
        have hrb : (r1 != 0) = true := by simpa using hr1
        clear Hc1 hr1
        go_wp2_with fail
        go_ret2
        exact ⟨HB.out, .inr ⟨HNo.out, rfl⟩⟩
    · obtain rfl : n = a := by omega
      have HD := Kp.mk (HS.out.done (by omega))
      clear HS
      go_wp2_with fail
      go_ret2
      exact ⟨HB.out, .inl ⟨_, ps, HD.out, rfl, HO.out⟩⟩
end Go.Proofs.Ytinffeffffligaa.Bas
