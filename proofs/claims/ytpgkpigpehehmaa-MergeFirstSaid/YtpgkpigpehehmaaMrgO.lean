import Derived.Test.YtpgkpigpehehmaaMrgN
set_option linter.unusedVariables false
set_option linter.unusedSimpArgs false
namespace Go.Proofs.Ytpgkpigpehehmaa.Bas
open Go.RowKit Go.Maps Go.Sort Go.Shelf

theorem Try.infoLs : (Try.prog.info? 25).map (fun i => (i.zero, i.size, i.bytes)) = some (some (.slice none 0 0), 1, 24) := by kernel_rfl
/-- append(l, one more list). -/
theorem wpList_append_lw {B : Nat} {w : World} {ops : Array Oper} {rest : List Oper} {o : Oper} {a : Act} {Q : Exit → Act → World → Prop} (hgd : o.guard = none) (s x : Operand)
    (ho : o.op = .call { callee := .builtin .append, args := #[s, x], argTypes := #[22, 22] })
    (v : Value) (n : Nat) (ca cb : Array Value) (g : Nat) (ad : Addr) (c : Nat) (hs : a.eval s = v) (hx : a.eval x = .slice (some ad) 1 c) (h : Lw B w v n ca cb) (hn : 1 ≤ n)
    (hc : w.cell? (ad.add 0) = some (.slice (some ⟨g, 0, none⟩) 1 1)) (hg : w.heap[g]? = some (.cells cb 40 (0, 0))) (hgne : some g ≠ v.ownBlock) (hl : n + 1 ≤ 2000000) (hbase : B ≤ w.heap.size)
    (hnext : ∀ v' w', Lw B w' v' (n + 1) ca cb → w.grownBy w' v.ownBlock → wpList Try.prog ops Q rest (a.put o.dst v') w') :
    wpList Try.prog ops Q (o :: rest) a w := by
  obtain ⟨i0, hi, hz0, hz1, hz2⟩ := info_parts Try.infoLs
  obtain ⟨xs, h1, h2⟩ := h.own
  have hlen : xs.length = n := by rw [h1.1, Nat.mul_one]
  refine wpList_append_own_at w hgd s x _ ho B _ i0 _ 1 24 Try.underlying22 hi hz0 hz1 hz2 rfl (by omega) v n xs hs h1 ad 1 c [.slice (some ⟨g, 0, none⟩) 1 1] hx rfl (fun j u hu => ?_) (fun u hu => by rw [List.mem_singleton.1 hu]; rfl) (by unfold maxLen; omega) (by omega) hbase ?_
  · match j, hu with
    | 0, hu => cases hu; exact hc
  intro v' w' hown hgr _ hat
  refine hnext v' w' ⟨_, hown, fun i hi => ?_⟩ hgr
  have key : ∀ q (cs : Array Value), w.heap[q]? = some (.cells cs 40 (0, 0)) → some q ≠ v.ownBlock → w'.heap[q]? = some (.cells cs 40 (0, 0)) ∧ some q ≠ v'.ownBlock := fun q cs hq hne => by
    refine ⟨(hgr.block q (lt_of_block hq) hne).trans hq, ?_⟩
    rcases hat with e | e
    · rw [e]; exact hne
    · rw [e]
      intro e'
      injection e' with e'
      have := lt_of_block hq
      omega
  by_cases hin : i < n
  · obtain ⟨q, q1, q2, q3⟩ := h2 i hin
    obtain ⟨k1, k2⟩ := key q _ q2 q3
    exact ⟨q, by rw [List.getElem?_append_left (by omega)]; exact q1, k1, k2⟩
  · obtain rfl : i = n := by omega
    obtain ⟨k1, k2⟩ := key g _ hg hgne
    refine ⟨g, by rw [List.getElem?_append_right (by omega), hlen, Nat.sub_self]; rfl, by rw [if_neg (by omega)]; exact k1, k2⟩
theorem Lw.own_ne {B : Nat} {w : World} {v : Value} {n : Nat} {ca cb : Array Value} (h : Lw B w v n ca cb) : ∀ k, v.ownBlock = some k → B ≤ k ∧ k < w.heap.size := fun k hk => by
  obtain ⟨xs, h1, h2⟩ := h.own
  exact ⟨own_base4 h1 k hk, own_blk_lt h1 k hk⟩
theorem nest4 (w1 : World) (o0 o1 o2 o3 : Obj) : Below w1.heap.size w1 ((((w1.alloc o0).alloc o1).alloc o2).alloc o3) ∧ ((((w1.alloc o0).alloc o1).alloc o2).alloc o3).heap[w1.heap.size]? = some o0 ∧ ((((w1.alloc o0).alloc o1).alloc o2).alloc o3).heap[w1.heap.size + 1]? = some o1 ∧
    ((((w1.alloc o0).alloc o1).alloc o2).alloc o3).heap[w1.heap.size + 1 + 1]? = some o2 ∧ ((((w1.alloc o0).alloc o1).alloc o2).alloc o3).heap[w1.heap.size + 1 + 1 + 1]? = some o3 ∧ ((((w1.alloc o0).alloc o1).alloc o2).alloc o3).heap.size = w1.heap.size + 1 + 1 + 1 + 1 := by
  have e : ∀ (W : World) (o : Obj), (W.alloc o).heap.size = W.heap.size + 1 := fun W o => by simp
  have k1 : ∀ (W : World) (o : Obj) (q : Nat), q < W.heap.size → (W.alloc o).heap[q]? = W.heap[q]? := fun W o q hq => (alloc_below W o).block q hq
  have k2 : ∀ (W : World) (o : Obj) (q : Nat), q = W.heap.size → (W.alloc o).heap[q]? = some o := fun W o q hq => by rw [hq]; exact heap_alloc_new W o
  refine ⟨(((alloc_below w1 _).alloc (by simp) _).alloc (by simp; omega) _).alloc (by simp; omega) _, ?_, ?_, ?_, ?_, by rw [e, e, e, e]⟩
  · rw [k1 _ _ _ (by rw [e, e, e]; omega), k1 _ _ _ (by rw [e, e]; omega), k1 _ _ _ (by rw [e]; omega), k2 _ _ _ rfl]
  · rw [k1 _ _ _ (by rw [e, e, e]; omega), k1 _ _ _ (by rw [e, e]; omega), k2 _ _ _ (by rw [e])]
  · rw [k1 _ _ _ (by rw [e, e, e]; omega), k2 _ _ _ (by rw [e, e])]
  · rw [k2 _ _ _ (by rw [e, e, e])]
theorem Ow.val1 {B : Nat} {W : World} {A : Option Addr} {c : Nat} {vs : Array Value} {e : En} (h : Ow B W (.slice A 1 c) [(vs, e)]) : ∃ g Av nv cv, A = some ⟨g, 0, none⟩ ∧ W.cell? ⟨g, 3, none⟩ = some (.slice Av nv cv) ∧ Rd W .u8 Av nv cv e.val := by
  obtain ⟨g, c', e1, _, hc⟩ := h.cells (k := 0) (by simp)
  have he := h.en (vs, e) (by simp)
  obtain ⟨A1, n1, c1, A2, n2, c2, hv, h1, h2, h3, h4⟩ := he
  have hv' : vs = #[.slice A1 n1 c1, .int .u64 e.k.seq, .int .i64 e.k.kind, .slice A2 n2 c2] := hv
  subst hv'
  injection e1 with e2 e3 e4
  refine ⟨g, A2, n2, c2, e2, ?_, h3⟩
  have := hc 3 (.slice A2 n2 c2) rfl
  rwa [Nat.zero_mul, Nat.zero_add] at this
def kyK : Ky := ⟨[107], 3, 1⟩
set_option maxHeartbeats 8000000 in
set_option maxRecDepth 100000 in
theorem merge_first {w : World} {A A' : Option Addr} {n c n' c' : Nat} {xs ys : List Int} (k : Int) (hm : n ≤ 9223372036854775807) (hm' : n' ≤ 9223372036854775807) (h : n ≤ 50 → Rd w .u8 A n c xs ∧ Byt xs) (h' : n' ≤ 50 → Rd w .u8 A' n' c' ys ∧ Byt ys) :
    Calls Try.prog 5 #[.slice A n c, .slice A' n' c', .int .i64 k] w fun e w' => e = .returned (.bool true) ∧ Below w.heap.size w w' := by
  have H := Kp.mk h
  have H' := Kp.mk h'
  clear h h'
  have kc := fun (w : World) (C : Array Value) (n c : Nat) => Lib.run_convert_bytes_const (P := Try.prog) w 35 5 C n c Try.underlying35 Try.underlying5
  by_cases hk1 : k < 1
  · go_enter Try.func5, Try.ntmps5
    go_wp2_with (go_at_call 6; refine (alive_any w).mono ?_; rintro e wa ⟨rfl, hba⟩)
    go_ret
    exact ⟨rfl, hba⟩
  by_cases hk6 : 6 < k
  · go_enter Try.func5, Try.ntmps5
    go_wp2_with (go_at_call 6; refine (alive_any w).mono ?_; rintro e wa ⟨rfl, hba⟩)
    go_ret
    exact ⟨rfl, hba⟩
  by_cases h50 : (50 : Int) < (n : Int)
  · go_enter Try.func5, Try.ntmps5
    go_wp2_with (go_at_call 6; refine (alive_any w).mono ?_; rintro e wa ⟨rfl, hba⟩)
    go_ret
    exact ⟨rfl, hba⟩
  by_cases h50' : (50 : Int) < (n' : Int)
  · go_enter Try.func5, Try.ntmps5
    go_wp2_with (go_at_call 6; refine (alive_any w).mono ?_; rintro e wa ⟨rfl, hba⟩)
    go_ret
    exact ⟨rfl, hba⟩
  obtain ⟨m, rfl⟩ : ∃ m : Nat, k = m := ⟨k.toNat, by omega⟩
  have HX := Kp.mk (H.out (by omega))
  have HY := Kp.mk (H'.out (by omega))
  clear H H'
  go_enter Try.func5, Try.ntmps5
  go_wp2_with (go_at_call 6; refine (alive_any w).mono ?_; rintro e w1 ⟨rfl, hba⟩; have HB1 := Kp.mk hba; clear hba)
  obtain ⟨W0, hW0⟩ : ∃ W0, W0 = ((((w1.alloc (.cells #[.int .u8 107] 5 (1, 2))).alloc (.cells #[.slice (some ⟨w1.heap.size, 0, none⟩) 1 1, .int .u64 3, .int .i64 1] 38)).alloc (.cells #[.slice (some ⟨w1.heap.size, 0, none⟩) 1 1, .int .u64 3, .int .i64 1, .slice A n c] 40)).alloc (.cells #[.slice (some ⟨w1.heap.size + 1 + 1, 0, none⟩) 1 1] 25)) := ⟨_, rfl⟩
  rw [← hW0]
  obtain ⟨hB0, g0, g1, g2, g3, hs0⟩ := nest4 w1 (.cells #[.int .u8 107] 5 (1, 2)) (.cells #[.slice (some ⟨w1.heap.size, 0, none⟩) 1 1, .int .u64 3, .int .i64 1] 38) (.cells #[.slice (some ⟨w1.heap.size, 0, none⟩) 1 1, .int .u64 3, .int .i64 1, .slice A n c] 40) (.cells #[.slice (some ⟨w1.heap.size + 1 + 1, 0, none⟩) 1 1] 25)
  rw [← hW0] at hB0 g0 g1 g2 g3 hs0
  have HBw : Kp (Below w.heap.size w W0) := ⟨HB1.out.trans (hB0.mono HB1.out.size)⟩
  have hwz := HB1.out.size
  obtain ⟨z, hz⟩ : ∃ z, z = w1.heap.size := ⟨_, rfl⟩
  rw [← hz] at g0 g1 g2 g3 hs0 hwz ⊢
  have HWz := Kp.mk hwz
  have Hs0 := Kp.mk hs0
  have G0 := Kp.mk g0
  have G1 := Kp.mk g1
  have HL0 : Kp (Lw (z + 1 + 1 + 1) W0 (.slice (some ⟨z + 1 + 1 + 1, 0, none⟩) 1 1) (0 + 1) #[.slice (some ⟨z, 0, none⟩) 1 1, .int .u64 3, .int .i64 1, .slice A n c] #[.slice (some ⟨z, 0, none⟩) 1 1, .int .u64 3, .int .i64 1, .slice A' n' c']) := ⟨lw_one g3 g2 (by omega) (Nat.le_refl _)⟩
  clear hB0 g0 g1 g2 g3 hs0 hwz hW0 hz HB1 kc
  go_loopw [9, 10] (fun v i wr => ∃ j : Nat, j ≤ m ∧ i = .int .i64 j ∧ Kp (Lw (z + 1 + 1 + 1) wr v (j + 1) #[.slice (some ⟨z, 0, none⟩) 1 1, .int .u64 3, .int .i64 1, .slice A n c] #[.slice (some ⟨z, 0, none⟩) 1 1, .int .u64 3, .int .i64 1, .slice A' n' c']) ∧ Kp (Below (z + 1 + 1 + 1) W0 wr)) (fun _ i _ => m - (intOf i).toNat)
  case atStart => exact ⟨0, Nat.zero_le _, rfl, HL0, ⟨Below.refl _ _⟩⟩
  case round =>
    obtain ⟨j, hj, rfl, HL, HB⟩ := hrel
    have hsz := HB.out.size
    rw [Hs0.out] at hsz
    by_cases hlt : j < m
    · have g1 := (HB.out.block (z + 1) (by omega)).trans G1.out
      have c0 := cells_top g1 0 (.slice (some ⟨z, 0, none⟩) 1 1) rfl
      have c1 := cells_top g1 1 (.int .u64 3) rfl
      have c2 := cells_top g1 2 (.int .i64 1) rfl
      have HL2 := Kp.mk ((HL.out.below (alloc_below wr (.cells #[.slice (some ⟨z, 0, none⟩) 1 1, .int .u64 3, .int .i64 1, .slice A' n' c'] 40))).below (alloc_below _ (.cells #[.slice (some ⟨wr.heap.size, 0, none⟩) 1 1] 25)))
      have hne : Kp (some wr.heap.size ≠ u9.ownBlock) := ⟨fun e => by have := HL.out.own_ne _ e.symm; omega⟩
      have HB2 : Kp (Below (z + 1 + 1 + 1) W0 ((wr.alloc (.cells #[.slice (some ⟨z, 0, none⟩) 1 1, .int .u64 3, .int .i64 1, .slice A' n' c'] 40)).alloc (.cells #[.slice (some ⟨wr.heap.size, 0, none⟩) 1 1] 25))) := ⟨(HB.out.alloc (by omega) _).alloc (by simp; omega) _⟩
      have Hg : Kp (((wr.alloc (.cells #[.slice (some ⟨z, 0, none⟩) 1 1, .int .u64 3, .int .i64 1, .slice A' n' c'] 40)).alloc (.cells #[.slice (some ⟨wr.heap.size, 0, none⟩) 1 1] 25)).heap[wr.heap.size]? = some (.cells #[.slice (some ⟨z, 0, none⟩) 1 1, .int .u64 3, .int .i64 1, .slice A' n' c'] 40)) := ⟨((alloc_below _ _).block _ (by simp)).trans (heap_alloc_new wr _)⟩
      have Hc : Kp (((wr.alloc (.cells #[.slice (some ⟨z, 0, none⟩) 1 1, .int .u64 3, .int .i64 1, .slice A' n' c'] 40)).alloc (.cells #[.slice (some ⟨wr.heap.size, 0, none⟩) 1 1] 25)).cell? ((⟨wr.heap.size + 1, 0, none⟩ : Addr).add 0) = some (.slice (some ⟨wr.heap.size, 0, none⟩) 1 1)) := ⟨by
        rw [Addr.add_lit]
        have hh : ((wr.alloc (.cells #[.slice (some ⟨z, 0, none⟩) 1 1, .int .u64 3, .int .i64 1, .slice A' n' c'] 40)).alloc (.cells #[.slice (some ⟨wr.heap.size, 0, none⟩) 1 1] 25)).heap[wr.heap.size + 1]? = some (.cells #[.slice (some ⟨wr.heap.size, 0, none⟩) 1 1] 25) := by
          have := heap_alloc_new (wr.alloc (.cells #[.slice (some ⟨z, 0, none⟩) 1 1, .int .u64 3, .int .i64 1, .slice A' n' c'] 40)) (.cells #[.slice (some ⟨wr.heap.size, 0, none⟩) 1 1] 25)
          simpa using this
        exact cells_top hh 0 _ rfl⟩
      have Hbs : Kp (z + 1 + 1 + 1 ≤ ((wr.alloc (.cells #[.slice (some ⟨z, 0, none⟩) 1 1, .int .u64 3, .int .i64 1, .slice A' n' c'] 40)).alloc (.cells #[.slice (some ⟨wr.heap.size, 0, none⟩) 1 1] 25)).heap.size) := ⟨by simp; omega⟩
      have hj6 : j + 1 + 1 ≤ 2000000 := by omega
      clear g1
      go_wp2_with (at_builtin; go_must (refine wpList_append_lw (B := z + 1 + 1 + 1) rfl (.tmp 50) (.tmp 55) rfl u9 (j + 1) #[.slice (some ⟨z, 0, none⟩) 1 1, .int .u64 3, .int .i64 1, .slice A n c] #[.slice (some ⟨z, 0, none⟩) 1 1, .int .u64 3, .int .i64 1, .slice A' n' c'] wr.heap.size ⟨wr.heap.size + 1, 0, none⟩ 1 rfl rfl HL2.out (Nat.succ_le_succ (Nat.zero_le _)) Hc.out Hg.out hne.out hj6 Hbs.out ?_); intro v' w2 hl hg; have HL3 := Kp.mk hl; have HB3 := Kp.mk (HB2.out.grown hg Hbs.out (fun k hk => (HL2.out.own_ne k hk).1)); clear hl hg)
      go_roundw
      case rel => exact ⟨j + 1, by omega, by go_num, HL3, HB3⟩
      case measure => simp [intOf]; omega
    · obtain rfl : m = j := by omega
      have hzz := HWz.out
      have HBall : Kp (Below w.heap.size w wr) := ⟨HBw.out.trans (HB.out.mono (by omega))⟩
      have hbyt : Byt kyK.key := by intro x hx; simp [kyK] at hx; omega
      have hrd : Rd wr .u8 (some ⟨z, 0, none⟩) 1 1 kyK.key := rd_byte ((HB.out.block z (by omega)).trans G0.out)
      have Ha : Kp (EnC wr #[.slice (some ⟨z, 0, none⟩) 1 1, .int .u64 3, .int .i64 1, .slice A n c] ⟨kyK, xs⟩) := ⟨_, _, _, _, _, _, rfl, hrd, hbyt, HX.out.1.below HBall.out, HX.out.2⟩
      have Hb : Kp (EnC wr #[.slice (some ⟨z, 0, none⟩) 1 1, .int .u64 3, .int .i64 1, .slice A' n' c'] ⟨kyK, ys⟩) := ⟨_, _, _, _, _, _, rfl, hrd, hbyt, HY.out.1.below HBall.out, HY.out.2⟩
      have HXr := Kp.mk (HX.out.1.below HBall.out)
      have k00 : keyCmp kyK kyK = 0 := by decide
      have hm20 : m + 1 < 20 := by omega
      obtain ⟨A1, c1, rfl⟩ := HL.out.slice
      have HAll := Kp.mk (all_one HL.out Ha.out Hb.out k00 k00 k00 k00 (Nat.succ_le_succ (Nat.zero_le _)) hm20)
      have K00 := Kp.mk k00
      have Hm20 := Kp.mk hm20
      clear hrd hbyt hsz hzz HL0 hj hlt k00 hm20
      go_wp2_with (first
        | (go_at_call 8; refine HAll.out.mono ?_; rintro e w3 ⟨A2, c2, vs2, rfl, hO2, hb3⟩; have HO2 := Kp.mk hO2; have HB3 := Kp.mk hb3; have HBk := Kp.mk (back_one' (HL.out.below hb3) (Ha.out.below hb3) (Hb.out.below hb3) K00.out K00.out K00.out K00.out (Nat.succ_le_succ (Nat.zero_le _)) Hm20.out); clear hO2 hb3)
        | (go_at_call 10; refine HBk.out.mono ?_; rintro e w4 ⟨A3, c3, vs3, rfl, hO3, hb4⟩; have HO3 := Kp.mk hO3; have HB4 := Kp.mk hb4; clear hO3 hb4))
      obtain ⟨g, Av, nv, cv, rfl, x3, hx⟩ := (HO2.out.below HB4.out).val1
      obtain ⟨g', Av', nv', cv', rfl, y3, hy⟩ := HO3.out.val1
      have HXr4 := (HXr.out.below HB3.out).below HB4.out
      have Bx := blw_cell x3
      have By := blw_cell y3
      have Sx := fun p : Blw w4 => rd_string (hx.below p.h)
      have Sy := fun p : Blw w4 => rd_string (hy.below p.h)
      have Sa := fun p : Blw w4 => rd_string (HXr4.below p.h)
      have HBe : Kp (Below w.heap.size w w4) := ⟨(HBall.out.trans (HB3.out.mono HBall.out.size)).trans (HB4.out.mono (Nat.le_trans HBall.out.size HB3.out.size))⟩
      clear x3 y3 hx hy HXr4
      refine wp_region_below (by kernel_rfl) (by kernel_rfl) ?_
      repeat (first | go_big_quiet_step ((go_at_call 13; exact calls_blw_same (num_any _ _))) | quiet_step ((go_at_call 13; exact calls_blw_same (num_any _ _))))
      refine wpQuiet_nil ?_
      rintro _ ⟨pq, rfl⟩
      go_wp2_with fail
      go_ret
      exact ⟨rfl, HBe.out.trans (pq.h.mono HBe.out.size)⟩
end Go.Proofs.Ytpgkpigpehehmaa.Bas
