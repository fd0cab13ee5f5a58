import Derived.Test.YtinffeffffligaaBlZj
import Derived.Test.YtinffeffffligaaBlZk
import Derived.Test.YtinffeffffligaaBlZl
import Derived.Test.YtinffeffffligaaBlZd
import Derived.Deep.DeepCutAuto
set_option linter.unusedVariables false
set_option linter.unusedSimpArgs false
namespace Go.Proofs.Ytinffeffffligaa.Bas
open Go.RowKit Go.Maps

/-! ### The block is read -/
set_option maxHeartbeats 8000000 in
set_option maxRecDepth 100000 in
theorem block_read {w : World} {A : Option Addr} {n c : Nat} {xs : List Int} (h : Rd w .u8 A n c xs) (hc : n ≤ c) (hb : Byt xs) (hn : n ≤ 1000000) : Calls Try.prog 35 #[.slice A n c] w (RdP xs w) := by
  have hl := h.len
  have HWZ := heap_alloc_new w (.cells #[.slice none 0 0, .slice none 0 0, .int .i64 0, .int .i64 0] 74)
  by_cases h8 : n < 8
  · have hwn : IntKind.i64.wrap ((n : Int) - 8) = (n : Int) - 8 := IntWalk.i64_in _ (by omega)
    have hneg : (n : Int) - 8 < 0 := by omega
    have Hx8 : Kp (xs.length < 8) := ⟨by omega⟩
    clear h hb
    go_enter Try.func35, Try.ntmps35
    go_wp2_with fail
    exact ret_cp rfl rfl rfl HWZ Try.underlying74 rfl (by kernel_rfl) rfl ⟨alloc_below w _, .inl ⟨Hx8.out, rfl⟩⟩
  · obtain ⟨m, hm⟩ : ∃ m, m = n - 8 := ⟨_, rfl⟩
    obtain ⟨p, hp⟩ : ∃ p, p = n - 4 := ⟨_, rfl⟩
    have hwn : IntKind.i64.wrap ((n : Int) - 8) = (m : Int) := (IntWalk.i64_in _ (by omega)).trans (by omega)
    have hwp : IntKind.i64.wrap ((m : Int) + 4) = (p : Int) := (IntWalk.i64_in _ (by omega)).trans (by omega)
    have hpc : p ≤ c := by omega
    have hpc' : (p : Int) ≤ (c : Int) := by omega
    have hwz := alloc_below w (.cells #[.slice none 0 0, .slice none 0 0, .int .i64 0, .int .i64 0] 74)
    have HWZK := Kp.mk HWZ
    have hx4l : numB ((xs.drop p).take 4) < 4294967296 := numB_at_lt hb p 4
    obtain ⟨x4, hx4⟩ : ∃ x4, x4 = numB ((xs.drop p).take 4) := ⟨_, rfl⟩
    obtain ⟨y, hy⟩ : ∃ y, y = unmaskN x4 := ⟨_, rfl⟩
    obtain ⟨z, hz⟩ : ∃ z, z = crcN (xs.take p) := ⟨_, rfl⟩
    have HSO : Kp (SumOk xs ↔ y = z) := ⟨by rw [sumOk_iff hb (by omega), hl, ← hp, ← hx4, ← hy, ← hz]⟩
    have hg := fun (W : World) (hW : Below w.heap.size w W) => get32 (h.below hW) hb (a := p) (by omega)
    rw [← hx4] at hx4l hg
    have hu := fun (W : World) => crc_unmask W hx4l
    rw [← hy] at hu
    have hs := fun (W : World) (hW : Below w.heap.size w W) (T : Option Addr) (ht : Rd W .u32 T 256 256 tabL) => crc_sum ht ((h.below hW).take (m := p) (by omega)) (byt_take hb p)
    rw [← hz] at hs
    have HG := Kp.mk hg
    have HU := Kp.mk hu
    have HS := Kp.mk hs
    have H := Kp.mk h
    have HBy := Kp.mk hb
    have HWB := Kp.mk hwz
    have Hp := Kp.mk hp
    have Hm := Kp.mk hm
    obtain ⟨gz, hgz⟩ : ∃ gz, gz = w.heap.size := ⟨_, rfl⟩
    have Hgz := Kp.mk hgz
    clear h hb hg hu hs hwz HWZ hx4 hy hz hp hm
    go_enter Try.func35, Try.ntmps35
    go_upto_region 4 with fail
    go_cut [28] (fun c wx => c = .bool ((y : Int) != (z : Int)) ∧ Kp (Below (w.alloc (.cells #[.slice none 0 0, .slice none 0 0, .int .i64 0, .int .i64 0] 74)).heap.size (w.alloc (.cells #[.slice none 0 0, .slice none 0 0, .int .i64 0, .int .i64 0] 74)) wx))
    case first =>
      obtain ⟨W0, hW0⟩ : ∃ W, W = w.alloc (.cells #[.slice none 0 0, .slice none 0 0, .int .i64 0, .int .i64 0] 74) := ⟨_, rfl⟩
      have HW0 := Kp.mk hW0
      have hB0 : Below w.heap.size w W0 := by rw [hW0]; exact HWB.out
      have hD0 : Below W0.heap.size W0 W0.drew := (Below.refl _ _).drew
      have HD := Kp.mk hD0
      have HTo : Kp (∀ W, Below W0.heap.size W0 W → Below w.heap.size w W) := ⟨fun W hW => hB0.trans (hW.mono hB0.size)⟩
      rw [← hW0]
      clear hW0 hB0 hD0
      go_region_with (first
        | (go_at_call 51; (first | refine (HG.out _ (HTo.out _ HBt.out)).mono ?_ | refine (HG.out _ (HTo.out _ HD.out)).mono ?_); rintro e wg ⟨rfl, hbg⟩; (first | have HBg := Kp.mk (HBt.out.trans (hbg.mono HBt.out.size)) | have HBg := Kp.mk (HD.out.trans (hbg.mono HD.out.size))); (try have HTg := Kp.mk (HTt.out.below hbg)); clear hbg)
        | (go_at_call 50; refine (HU.out _).mono ?_; rintro e wu ⟨rfl, hwu⟩; subst hwu)
        | (go_at_call 31; refine (crc_table _).mono ?_; rintro e wt ⟨gt, rfl, htt, hbt⟩; (first | have HBt := Kp.mk (HBg.out.trans (hbt.mono HBg.out.size)) | have HBt := Kp.mk (HD.out.trans (hbt.mono HD.out.size))); have HTt := Kp.mk htt; clear htt hbt)
        | (go_at_call 30; first
            | (refine (HS.out _ (HTo.out _ HBg.out) _ HTg.out).mono ?_; rintro e ws ⟨rfl, hws⟩; subst hws)
            | (refine (HS.out _ (HTo.out _ HBt.out) _ HTt.out).mono ?_; rintro e ws ⟨rfl, hws⟩; subst hws)))
      all_goals
        go_wp2_with fail
        go_meet
        rw [← HW0.out]
        first
          | exact ⟨rfl, HBt⟩
          | exact ⟨rfl, HBg⟩
    case rest =>
      obtain ⟨rfl, HBc⟩ := hcut
      have HZ : Kp (wc.heap[gz]? = some (.cells #[.slice none 0 0, .slice none 0 0, .int .i64 0, .int .i64 0] 74 (0, 0))) := ⟨by rw [Hgz.out]; exact (HBc.out.block _ (lt_of_block HWZK.out)).trans HWZK.out⟩
      have HB1 := Kp.mk (HWB.out.trans (HBc.out.mono HWB.out.size))
      rw [← hgz]
      have t0 := cells_top HZ.out 0 (.slice none 0 0) rfl
      have t1 := cells_top HZ.out 1 (.slice none 0 0) rfl
      have t2 := cells_top HZ.out 2 (.int .i64 0) rfl
      have t3 := cells_top HZ.out 3 (.int .i64 0) rfl
      have f0 := free_top HZ.out 0
      have f1 := free_top HZ.out 1
      have f2 := free_top HZ.out 2
      have f3 := free_top HZ.out 3
      have Hx8 : Kp (8 ≤ xs.length) := ⟨by omega⟩
      clear HWZK HBc hgz HG HU HS HWB
      by_cases hsum : SumOk xs
      · have hyz := HSO.out.1 hsum
        have hb1 : ((y : Int) != (z : Int)) = false := by rw [bne_eq_false_iff_eq]; omega
        have HOk := Kp.mk hsum
        obtain ⟨k, hk⟩ : ∃ k, k = cntB xs := ⟨_, rfl⟩
        have hkm : numB ((xs.drop m).take 4) = k := by rw [hk]; unfold cntB; rw [hl, Hm.out]
        have hk32 : k < 4294967296 := by have := numB_at_lt HBy.out m 4; rw [hkm] at this; omega
        have hgk := get32 (H.out.below HB1.out) HBy.out (a := m) (by have := Hm.out; omega)
        rw [hkm] at hgk
        have HGk := Kp.mk hgk
        have Hk := Kp.mk hk
        have hmn : m + 8 = n := by have := Hm.out; omega
        clear hsum hyz hkm hgk hk HSO
        go_wp2_with fail
        refine HGk.out.mono ?_
        rintro e wd ⟨rfl, hbd⟩
        have HZd := Kp.mk ((hbd.block _ (lt_of_block HZ.out)).trans HZ.out)
        have HBd := Kp.mk (HB1.out.trans (hbd.mono HB1.out.size))
        have t0 := cells_top HZd.out 0 (.slice none 0 0) rfl
        have t1 := cells_top HZd.out 1 (.slice none 0 0) rfl
        have t2 := cells_top HZd.out 2 (.int .i64 0) rfl
        have t3 := cells_top HZd.out 3 (.int .i64 0) rfl
        have f0 := free_top HZd.out 0
        have f1 := free_top HZd.out 1
        have f2 := free_top HZd.out 2
        have f3 := free_top HZd.out 3
        have hkw : IntKind.u64.wrap (k : Int) = (k : Int) := w64 _ (by omega) (by omega)
        have hkw2 : (k : Int) % 18446744073709551616 = (k : Int) := by omega
        have hmw : (m : Int) % 18446744073709551616 = (m : Int) := by omega
        obtain ⟨q4, hq4⟩ : ∃ q4, q4 = m / 4 := ⟨_, rfl⟩
        have hd4 : (m : Int) / 4 = (q4 : Int) := by omega
        have hd5 : (m : Int).tdiv 4 = (q4 : Int) := by rw [hq4]; exact Int.ofNat_tdiv m 4
        by_cases hkq : k ≤ q4
        · obtain ⟨f, hf⟩ : ∃ f, f = m - 4 * k := ⟨_, rfl⟩
          have hfm : f + 4 * k = m := by omega
          have hkiw : IntKind.i64.wrap (k : Int) = (k : Int) := IntWalk.i64_in _ (by omega)
          have hk4 : IntKind.i64.wrap ((k : Int) * 4) = ((4 * k : Nat) : Int) := (IntWalk.i64_in _ (by omega)).trans (by omega)
          have hk4' : IntKind.i64.wrap (4 * (k : Int)) = ((4 * k : Nat) : Int) := (IntWalk.i64_in _ (by omega)).trans (by omega)
          have hwf : IntKind.i64.wrap ((m : Int) - ((4 * k : Nat) : Int)) = (f : Int) := (IntWalk.i64_in _ (by omega)).trans (by omega)
          have hwf' : IntKind.i64.wrap ((m : Int) - 4 * (k : Int)) = (f : Int) := (IntWalk.i64_in _ (by omega)).trans (by omega)
          have hfc : f ≤ c := by omega
          have hfc' : (f : Int) ≤ (c : Int) := by omega
          have hkq' : ¬ q4 < k := by omega
          have hfront : xs.take f = frontOf xs := by unfold frontOf; rw [hl, ← Hk.out, show n - 8 = m by omega, hf]
          have hrests : nums4 k (xs.drop f) = restsOf xs := by unfold restsOf; rw [hl, ← Hk.out, show n - 8 = m by omega, hf]
          have HFr := Kp.mk hfront
          have HRe := Kp.mk hrests
          have Hf := Kp.mk hf
          clear hfront hrests hf hq4
          go_wp2_with fail
          obtain ⟨W1, hW1⟩ : ∃ W, W = wd.alloc (.cells #[.slice A f c, .int .i64 0, .slice none 0 0, .slice none 0 0, .slice none 0 0, .slice none 0 0] 87) := ⟨_, rfl⟩
          obtain ⟨gr, hgr⟩ : ∃ q, q = wd.heap.size := ⟨_, rfl⟩
          have hh1 : W1.heap[gr]? = some (.cells #[.slice A f c, .int .i64 (0 : Nat), .slice none 0 0, .slice none 0 0, .slice none 0 0, .slice none 0 0] 87 (0, 0)) := by rw [hW1, hgr]; exact heap_alloc_new wd _
          have hb1' : Below wd.heap.size wd W1 := by rw [hW1]; exact alloc_below wd _
          have hs1 : gr + 1 ≤ W1.heap.size := by rw [hW1, hgr]; simp
          have HB2 := Kp.mk (HBd.out.trans (hb1'.mono HBd.out.size))
          have HZ2 := Kp.mk ((hb1'.block _ (lt_of_block HZd.out)).trans HZd.out)
          have hzr : gz < gr := by rw [hgr]; exact lt_of_block HZd.out
          have hwr : w.heap.size ≤ gr := by rw [hgr]; exact HBd.out.size
          have HH1 := Kp.mk hh1
          have HS1 := Kp.mk hs1
          rw [← hW1, ← hgr]
          clear hW1 hgr hh1 hb1' hs1 t0 t1 t2 t3 f0 f1 f2 f3 HZd HBd HZ HB1 HGk hbd
          go_loopw [8] (fun i wr => ∃ (a j nr cr : Nat) (Ar : Option Addr), i = .int .i64 (a : Nat) ∧ Kp (a = f + 4 * j) ∧ j ≤ k ∧ Kp (wr.heap[gr]? = some (.cells #[.slice A f c, .int .i64 (0 : Nat), .slice none 0 0, .slice none 0 0, .slice none 0 0, .slice Ar nr cr] 87 (0, 0))) ∧
              Kp (Nu .i64 3 (gr + 1) wr (.slice Ar nr cr) (intsN (nums4 j (xs.drop f)))) ∧ Kp (Below w.heap.size w wr) ∧ Kp (wr.heap[gz]? = some (.cells #[.slice none 0 0, .slice none 0 0, .int .i64 0, .int .i64 0] 74 (0, 0))) ∧ Kp (gr + 1 ≤ wr.heap.size)) (fun i _ => m - (intOf i).toNat)
          case atStart => exact ⟨f, 0, 0, 0, none, rfl, ⟨rfl⟩, Nat.zero_le _, HH1, ⟨Nu.nil _ _ _ _⟩, HB2, HZ2, HS1⟩
          case round =>
            obtain ⟨a, j, nr, cr, Ar, rfl, HAJ, hj, HH, HN, HB, HZ, HSz⟩ := hrel
            have haj := HAJ.out
            by_cases hlt : j < k
            · have ham : a < m := by omega
              have ham' : ¬ m ≤ a := by omega
              obtain ⟨x, hx⟩ : ∃ x, x = numB ((xs.drop a).take 4) := ⟨_, rfl⟩
              have hx32 : x < 4294967296 := by rw [hx]; exact numB_at_lt HBy.out a 4
              have hxw : IntKind.i64.wrap (x : Int) = (x : Int) := IntWalk.i64_in _ (by omega)
              have haw : IntKind.i64.wrap ((a : Int) + 4) = ((a + 4 : Nat) : Int) := (IntWalk.i64_in _ (by omega)).trans (by omega)
              have hD : Below wr.heap.size wr wr.drew := (Below.refl _ _).drew
              have hg := get32 (H.out.below (HB.out.trans (hD.mono HB.out.size))) HBy.out (a := a) (by omega)
              rw [← hx] at hg
              have HG := Kp.mk hg
              have HD := Kp.mk hD
              have c5 := cells_top HH.out 5 (.slice Ar nr cr) rfl
              have HLn : Kp (((intsN (nums4 j (xs.drop f))).length + 1) * 8 ≤ 140737488355328) := ⟨by rw [intsN_len, nums4_len]; omega⟩
              have HX : Kp (intsN (nums4 (j + 1) (xs.drop f)) = intsN (nums4 j (xs.drop f)) ++ [(x : Int)]) := ⟨by rw [nums4_succ, List.drop_drop, ← haj, ← hx]; simp [intsN]⟩
              have HSr : Kp (some gr ≠ (Value.slice Ar nr cr).ownBlock) := ⟨fun e => by have := HN.out.base gr e.symm; omega⟩
              have HSz2 : Kp (some gz ≠ (Value.slice Ar nr cr).ownBlock) := ⟨fun e => by have := HN.out.base gz e.symm; omega⟩
              clear hg hD hx haj
              go_wp2_with fail
              go_region_law ((first
                | (go_simp; go_at_call 51; refine HG.out.mono ?_; rintro e wg ⟨rfl, hbg⟩; dsimp only; have hbh := HD.out.trans (hbg.mono HD.out.size); have HHg := Kp.mk ((hbh.block _ (lt_of_block HH.out)).trans HH.out); have c5g := cells_top HHg.out 5 (.slice Ar nr cr) rfl; have c5a := cell_kept (alloc_below wg (.cells #[.int .i64 (x : Int)] 3)) c5g; have hag := alloc_below wg (.cells #[.int .i64 (x : Int)] 3); have hbi := hbh.trans (hag.mono hbh.size); have HHa := Kp.mk ((hbi.block _ (lt_of_block HH.out)).trans HH.out); have HZa := Kp.mk ((hbi.block _ (lt_of_block HZ.out)).trans HZ.out); have HNa := Kp.mk (HN.out.below hbi); have HBa := Kp.mk (HB.out.trans (hbi.mono HB.out.size)); have HRa := Kp.mk (rd_new1 wg .i64 3 (x : Int)); have HSa : Kp (gr + 1 ≤ (wg.alloc (.cells #[.int .i64 (x : Int)] 3)).heap.size) := ⟨Nat.le_trans HSz.out hbi.size⟩; clear hbg hbh hag hbi)
                | (refine step_append_nu2 (w := wg.alloc (.cells #[.int .i64 (x : Int)] 3)) rfl (.tmp 60) (.tmp 65) 41 3 .i64 8 (gr + 1) rfl Try.underlying41 Try.infoI64 eight_pos (.slice Ar nr cr) 1 1 (intsN (nums4 j (xs.drop f))) [(x : Int)] ⟨wg.heap.size, 0, none⟩ rfl rfl HNa.out HRa.out HLn.out HSa.out ?_; intro A9 n9 c9 V3 h1 h2 h3; have HN3 := Kp.mk h1; have HH3 := Kp.mk ((h2.block _ (lt_of_block HHa.out) HSr.out).trans HHa.out); have HZ3 := Kp.mk ((h2.block _ (lt_of_block HZa.out) HSz2.out).trans HZa.out); have HB3 := Kp.mk (HBa.out.trans (h2.toBelow (fun q hq => Nat.le_trans hwr (Nat.le_of_succ_le (HNa.out.base q hq.symm))) HBa.out.size)); have HS3 : Kp (gr + 1 ≤ V3.heap.size) := ⟨Nat.le_trans HSa.out h2.size⟩; have f5 := free_top HH3.out 5; have d5 := cells_top HH3.out 5 (.slice Ar nr cr) rfl; clear h1 h2 h3)))
              all_goals
                go_wp2_with fail
                have hh4 := heap_setCell_same V3 gr 5 _ _ (.slice A9 n9 c9) HH3.out
                have hf4 : Fr V3 (V3.setCell ⟨gr, 5, none⟩ (.slice A9 n9 c9)) (fun q => q = gr) := (Fr.refl V3 (fun q => q = gr)).setCell (a := ⟨gr, 5, none⟩) (.inl rfl) (.slice A9 n9 c9)
                have HH4 := Kp.mk hh4
                have HN4 : Kp (Nu .i64 3 (gr + 1) (V3.setCell ⟨gr, 5, none⟩ (.slice A9 n9 c9)) (.slice A9 n9 c9) (intsN (nums4 (j + 1) (xs.drop f)))) := ⟨by
                  rw [HX.out]
                  exact HN3.out.kept hf4 (fun q hq e => by have := HN3.out.base q hq; omega)⟩
                have HZ4 := Kp.mk ((hf4.block gz (lt_of_block HZ3.out) (by omega)).trans HZ3.out)
                have HB4 := Kp.mk (HB3.out.trans (hf4.toBelow (fun q hq => by rw [hq]; exact hwr) HB3.out.size))
                have HS4 : Kp (gr + 1 ≤ (V3.setCell ⟨gr, 5, none⟩ (.slice A9 n9 c9)).heap.size) := ⟨Nat.le_trans HS3.out hf4.size⟩
                clear hh4 hf4
                go_roundw
                case rel => exact ⟨a + 4, j + 1, n9, c9, A9, by go_num, ⟨by have := HAJ.out; omega⟩, by omega, HH4, HN4, HB4, HZ4, HS4⟩
                case measure => simp [intOf]; omega
            · obtain rfl : k = j := by omega
              have ham : m ≤ a := by have := HAJ.out; omega
              have ham' : ¬ a < m := by omega
              have hnr : nr = k := by
                have := (HN.out.rd (by rw [intsN_len, nums4_len]; omega)).1
                rw [intsN_len, nums4_len] at this
                exact this
              have hr5 := (HN.out.rd (by rw [intsN_len, nums4_len]; omega)).2
              rw [HRe.out] at hr5
              have HNR := Kp.mk hnr
              have hfl : (frontOf xs).length = f := by rw [← HFr.out, List.length_take]; omega
              have hents := reader_entries (R := restsOf xs) HH.out (by have := (H.out.below HB.out).take (m := f) (by omega); rw [HFr.out] at this; exact this) (fun ad e hf0 hq => by have := H.out.lt ad e (by omega); omega) hr5.1 (fun ad e hn0 hq => by have := hr5.2 ad e; omega) hfc (by rw [← HFr.out]; exact byt_take HBy.out f) (by omega) (by omega)
              have HEn := Kp.mk hents
              have HFl := Kp.mk hfl
              clear hents hr5 hfl hnr haj
              go_wp2_with fail
              refine HEn.out.mono ?_
              rintro e w5 ⟨hf5, (⟨ps, bs, last, v2, v3, v4, rfl, hRn, hh5, how, hnu, hfar⟩ | ⟨hno, rfl⟩)⟩
              · obtain ⟨Ao, co, e3⟩ := how.slice
                subst e3
                obtain ⟨Ab, cb, e4⟩ := hnu.slice
                subst e4
                have hpl : ps.length ≤ 10000 := by have := hRn.good.len; rw [List.length_map] at this; exact this
                have hlow : ∀ b ∈ bs, b < ps.length := fun b hb => by have := hRn.low b hb; rw [List.length_map] at this; exact this
                have HSt := Kp.mk (reader_steps hh5 hnu hpl hlow hRn.asc)
                have HR := Kp.mk hRn
                have HB5 := Kp.mk (HB.out.trans (hf5.toBelow (B := w.heap.size) (fun q hq => by have := HB.out.size; omega) HB.out.size))
                have HZ5 := Kp.mk ((hf5.block gz (lt_of_block HZ.out) (fun e => by have := HSz.out; omega)).trans HZ.out)
                have HN5 := Kp.mk (HN.out.kept hf5 (fun q hq e => by have := HN.out.base q hq; have := HN.out.lt q hq; omega))
                have HO5 := Kp.mk how
                have HF5 := Kp.mk hfar
                have HH5 := Kp.mk hh5
                clear hf5 hRn hh5 how hnu hfar hlow
                go_wp2_with fail
                refine HSt.out.mono ?_
                rintro e w6 ⟨hb6, lo, hi, rfl, (⟨s, rfl, hs1, hs2, hle, hbs⟩ | ⟨hgt, hno⟩)⟩
                · have HFit := Kp.mk (HR.out.fits HFl.out.symm rfl hs1 (by rw [List.length_map]; exact hbs))
                  have HI := Kp.mk (HFit.out.isB HBy.out Hx8.out HOk.out (by have := Hk.out; omega) hs2)
                  have hd6 := hb6
                  have HB6 := Kp.mk (HB5.out.trans (hd6.mono HB5.out.size))
                  have HZ6 := Kp.mk ((hd6.block _ (lt_of_block HZ5.out)).trans HZ5.out)
                  have HN6 := Kp.mk (HN5.out.below hd6)
                  have HO6 := Kp.mk (HO5.out.below hd6)
                  have HH6 := Kp.mk ((hb6.block _ (lt_of_block HH5.out)).trans HH5.out)
                  have y3 := cells_top HH6.out 3 _ rfl
                  have y5 := cells_top HH6.out 5 _ rfl
                  have HZ6' : Kp (w6.heap[gz]? = some (.cells #[.slice none 0 0, .slice none 0 0, .int .i64 0, .int .i64 0] 74 (0, 0))) := HZ6
                  have t0 := cells_top HZ6'.out 0 (.slice none 0 0) rfl
                  have t1 := cells_top HZ6'.out 1 (.slice none 0 0) rfl
                  have t2 := cells_top HZ6'.out 2 (.int .i64 0) rfl
                  have t3 := cells_top HZ6'.out 3 (.int .i64 0) rfl
                  have f0 := free_top HZ6'.out 0
                  have f1 := free_top HZ6'.out 1
                  have f2 := free_top HZ6'.out 2
                  have f3 := free_top HZ6'.out 3
                  have hle' : ¬ hi < (s : Int) := by omega
                  clear hb6 hd6 hbs
                  go_wp2_with fail
                  go_region_with (fail)
                  all_goals
                    go_wp2_with fail
                    obtain ⟨a4, hfr⟩ := put4 HZ6'.out (.slice Ao ps.length co) (.slice Ar nr cr) (.int .i64 (s : Int)) (.int .i64 hi)
                    have a5 := fun (X : World) (h : X.heap[gz]? = some (.cells #[.slice Ao ps.length co, .slice Ar nr cr, .int .i64 (s : Int), .int .i64 hi] 74 (0, 0))) => (show X.drew.heap[gz]? = some (.cells #[.slice Ao ps.length co, .slice Ar nr cr, .int .i64 (s : Int), .int .i64 hi] 74 (0, 0)) from h)
                    have b1 := (HB6.out.trans (hfr.toBelow (fun k hk => by rw [hk, Hgz.out]; exact Nat.le_refl _) HB6.out.size)).drew
                    have b2 := (ow_lower (ow_kept HO6.out hfr (fun q hq e => by have := HO6.out.base q hq; have := HSz.out; omega) (fun p hp A n c hm hn e => by have := HF5.out p hp A n c hm hn; have := HSz.out; omega)) HB.out.size).below ((Below.refl _ _).drew)
                    have b3 := ((HN6.out.kept hfr (fun q hq e => by have := HN6.out.base q hq; omega)).lower (B' := w.heap.size) (by omega)).below ((Below.refl _ _).drew)
                    have h2 := HFit.out.ends
                    rw [List.length_map] at h2
                    rw [HRe.out, h2] at b3
                    exact ret_cp rfl rfl rfl (a5 _ a4) Try.underlying74 rfl (by kernel_rfl) rfl ⟨b1, .inr (.inr (.inr ⟨_, _, _, _, ps, s, HI.out, rfl, b2, b3⟩))⟩
                · have HNo : Kp (∀ es s, ¬ IsB xs es s) := ⟨fun es s hI => by
                    obtain ⟨e1, _, e3⟩ := HR.out.done HFl.out.symm hI.fit
                    rw [List.length_map] at e3
                    exact hno s hI.low hI.high e3⟩
                  have HB6 := Kp.mk (HB5.out.trans (hb6.mono HB5.out.size))
                  have HZ6 := Kp.mk ((hb6.block _ (lt_of_block HZ5.out)).trans HZ5.out)
                  have t0 := cells_top HZ6.out 0 (.slice none 0 0) rfl
                  have t1 := cells_top HZ6.out 1 (.slice none 0 0) rfl
                  have t2 := cells_top HZ6.out 2 (.int .i64 0) rfl
                  have t3 := cells_top HZ6.out 3 (.int .i64 0) rfl
                  have f0 := free_top HZ6.out 0
                  have f1 := free_top HZ6.out 1
                  have f2 := free_top HZ6.out 2
                  have f3 := free_top HZ6.out 3
                  clear hb6 hno
                  go_wp2_with fail
                  obtain ⟨a4, hfr⟩ := put4 HZ6.out (.slice none 0 0) (.slice none 0 0) (.int .i64 0) (.int .i64 0)
                  exact ret_cp rfl rfl rfl a4 Try.underlying74 rfl (by kernel_rfl) rfl ⟨HB6.out.trans (hfr.toBelow (fun k hk => by rw [hk, Hgz.out]; exact Nat.le_refl _) HB6.out.size), .inr (.inr (.inl ⟨Hx8.out, HOk.out, HNo.out, rfl⟩))⟩
              · have HNo : Kp (∀ es s, ¬ IsB xs es s) := ⟨fun es s hI => hno es s hI.fit⟩
                have HB6 := Kp.mk (HB.out.trans (hf5.toBelow (B := w.heap.size) (fun q hq => by have := HB.out.size; omega) HB.out.size))
                have HZ6 := Kp.mk ((hf5.block gz (lt_of_block HZ.out) (fun e => by have := HSz.out; omega)).trans HZ.out)
                have t0 := cells_top HZ6.out 0 (.slice none 0 0) rfl
                have t1 := cells_top HZ6.out 1 (.slice none 0 0) rfl
                have t2 := cells_top HZ6.out 2 (.int .i64 0) rfl
                have t3 := cells_top HZ6.out 3 (.int .i64 0) rfl
                have f0 := free_top HZ6.out 0
                have f1 := free_top HZ6.out 1
                have f2 := free_top HZ6.out 2
                have f3 := free_top HZ6.out 3
                clear hf5 hno
                go_wp2_with fail
                obtain ⟨a4, hfr⟩ := put4 HZ6.out (.slice none 0 0) (.slice none 0 0) (.int .i64 0) (.int .i64 0)
                exact ret_cp rfl rfl rfl a4 Try.underlying74 rfl (by kernel_rfl) rfl ⟨HB6.out.trans (hfr.toBelow (fun k hk => by rw [hk, Hgz.out]; exact Nat.le_refl _) HB6.out.size), .inr (.inr (.inl ⟨Hx8.out, HOk.out, HNo.out, rfl⟩))⟩
        · have HNo : Kp (∀ es s, ¬ IsB xs es s) := ⟨fun es s hI => by have := hI.parts.2.2.2.1; have := Hk.out; omega⟩
          have hlk : q4 < k := by omega
          clear hq4
          go_wp2_with fail
          obtain ⟨a4, hfr⟩ := put4 HZd.out (.slice none 0 0) (.slice none 0 0) (.int .i64 0) (.int .i64 0)
          exact ret_cp rfl rfl rfl a4 Try.underlying74 rfl (by kernel_rfl) rfl ⟨HBd.out.trans (hfr.toBelow (fun k hk => by rw [hk, Hgz.out]; exact Nat.le_refl _) HBd.out.size), .inr (.inr (.inl ⟨Hx8.out, HOk.out, HNo.out, rfl⟩))⟩
      · have hb1 : ((y : Int) != (z : Int)) = true := by rw [bne_iff_ne]; intro e; exact hsum (HSO.out.2 (by omega))
        have HOk := Kp.mk hsum
        clear hsum
        go_wp2_with fail
        obtain ⟨a4, hfr⟩ := put4 HZ.out (.slice none 0 0) (.slice none 0 0) (.int .i64 0) (.int .i64 0)
        exact ret_cp rfl rfl rfl a4 Try.underlying74 rfl (by kernel_rfl) rfl ⟨HB1.out.trans (hfr.toBelow (fun k hk => by rw [hk, Hgz.out]; exact Nat.le_refl _) HB1.out.size), .inr (.inl ⟨Hx8.out, HOk.out, rfl⟩)⟩
end Go.Proofs.Ytinffeffffligaa.Bas
