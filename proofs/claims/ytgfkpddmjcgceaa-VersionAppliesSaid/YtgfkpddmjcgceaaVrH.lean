import Derived.Test.YtgfkpddmjcgceaaVrF
set_option linter.unusedVariables false
set_option linter.unusedSimpArgs false
namespace Go.Proofs.Ytgfkpddmjcgceaa.Kx
open Go.RowKit Go.Maps Go.Proofs.YtgfkpddmjcgceaaW.PrintWords

def BytRs (rs : List Rn) : Prop := ∀ i, i < rs.length → Byt (rs.getD i zRn).first ∧ Byt (rs.getD i zRn).last
set_option maxHeartbeats 4000000 in
set_option maxRecDepth 100000 in
theorem ref_edit {w : World} {A A' : Option Addr} {c c' : Nat} {add : List Rn} {drop : List Int} (nx lg sq : Int) (h : kRn.C w A add.length add) (h' : (Kd.int .i64).C w A' drop.length drop) (hc' : drop.length ≤ c') (hbyt : BytRs add) :
    Calls Try.prog 28 #[.agg #[.slice A add.length c, .slice A' drop.length c', .int .i64 nx, .int .i64 lg, .int .u64 sq]] w (AnyQ (EOk add drop nx lg sq) w) := by
  have H' := Kp.mk h'
  have HC' := Kp.mk hc'
  have HBy := Kp.mk hbyt
  obtain ⟨n, hn⟩ : ∃ n, n = add.length := ⟨_, rfl⟩
  rw [← hn] at h ⊢
  have Hn := Kp.mk hn
  have H := Kp.mk h
  obtain ⟨m, hm⟩ : ∃ m, m = drop.length := ⟨_, rfl⟩
  by_cases hd : eHead n m nx lg sq
  · have Hd := Kp.mk hd
    have Hm := Kp.mk hm
    obtain ⟨d1, d2, d3, d4, d5, d6, d7⟩ := hd
    have hml : Kp (m = drop.length) := ⟨hm⟩
    rw [hm] at d2
    clear h h' hn hm hc' hbyt
    go_enter Try.func28, Try.ntmps28
    go_wp2_with fail
    refine (ref_files (Kd.C_alloc H.out _) (by omega)).mono ?_
    rintro e w1 ⟨v1, rfl, hR1, hb1⟩
    obtain ⟨fs, hfs⟩ : ∃ fs, fs = add.map Rn.file := ⟨_, rfl⟩
    rw [← hfs] at hR1
    have Hfs := Kp.mk hfs
    clear hfs
    obtain ⟨A1, c1, rfl, hl1, hC1⟩ := Kd.R_reads hR1
    have HX1 := Kp.mk (heap_newb hb1)
    have HB1 := Kp.mk (below_then (alloc_below w _) (by simp) hb1)
    have HL1 := Kp.mk hl1
    have HC1 := Kp.mk hC1
    clear hR1 hb1 hl1 hC1
    go_wp2_with fail
    refine (ref_once HC1.out HL1.out).mono ?_
    rintro e w2 ⟨b2, rfl, hb, hb2⟩
    have HX2 := Kp.mk ((hb2.block _ (lt_of_block HX1.out)).trans HX1.out)
    have HB2 := Kp.mk (below_then HB1.out HB1.out.size hb2)
    have Hb := Kp.mk hb
    clear hb hb2
    cases b2 with
    | false =>
      have hv : Kp (false = true ↔ EOk add drop nx lg sq) := ⟨⟨(fun h => by cases h), fun h => by have := Hb.out.2 (by rw [Hfs.out]; exact h.2.1); cases this⟩⟩
      clear Hb
      go_wp2_with fail
      go_ret
      exact ⟨_, rfl, hv.out, HB2.out⟩
    | true =>
      have b1 := cells_top HX2.out 1 _ rfl
      have Hb1 := Kp.mk (Hb.out.1 rfl)
      rw [Hfs.out] at Hb1
      clear Hb
      go_wp2_with fail
      refine (ref_once (Kd.C_below H'.out HB2.out) HC'.out).mono ?_
      rintro e w3 ⟨b3, rfl, hb, hb3⟩
      have HX3 := Kp.mk ((hb3.block _ (lt_of_block HX2.out)).trans HX2.out)
      have HB3 := Kp.mk (below_then HB2.out HB2.out.size hb3)
      have Hb := Kp.mk hb
      clear hb hb3
      cases b3 with
      | false =>
        have hv : Kp (false = true ↔ EOk add drop nx lg sq) := ⟨⟨(fun h => by cases h), fun h => by have := Hb.out.2 h.2.2.2.1; cases this⟩⟩
        clear Hb
        go_wp2_with fail
        go_ret
        exact ⟨_, rfl, hv.out, HB3.out⟩
      | true =>
        have Hb3 := Kp.mk (Hb.out.1 rfl)
        clear Hb b1
        go_wp2_with fail
        go_loopw [3] (fun i wr => ∃ k : Nat, k ≤ n ∧ i = .int .i64 k ∧ Kp (∀ j, j < k → rnOk (add.getD j zRn)) ∧ Kp (wr.heap[w.heap.size]? = some (.cells #[.slice A n c, .slice A' drop.length c', .int .i64 nx, .int .i64 lg, .int .u64 sq] 31 (0, 0))) ∧ Kp (Below w.heap.size w wr)) (fun i _ => n - (intOf i).toNat)
        case atStart => exact ⟨0, Nat.zero_le _, rfl, ⟨by omega⟩, HX3, HB3⟩
        case round =>
          obtain ⟨k, hk, rfl, HN1, HX, HB⟩ := hrel
          have b0 := cells_top HX.out 0 _ rfl
          have b1 := cells_top HX.out 1 _ rfl
          have HWs := Kp.mk HB.out.size
          by_cases hlt : k < n
          · obtain ⟨ad, A3, c3, A4, c4, rfl, c0, c1, c2, c3', c4', c5, _, g3, _, g4⟩ := rn_at (Kd.C_below H.out HB.out) k hlt
            have Hby := Kp.mk (HBy.out k (by have := Hn.out; omega))
            obtain ⟨r, hr⟩ : ∃ r, add.getD k zRn = r := ⟨_, rfl⟩
            rw [hr] at c0 c1 c2 c3' c4' c5 g3 g4 Hby
            have Hr := Kp.mk hr
            have G3 := Kp.mk g3
            have G4 := Kp.mk g4
            clear hr g3 g4
            by_cases e1 : rnOk r
            · have hd1 : Kp (decide (rnOk r) = true) := ⟨decide_eq_true e1⟩
              have hv1 : Kp (∀ j, j < k + 1 → rnOk (add.getD j zRn)) := ⟨fun j hj => by
                by_cases hjk : j = k
                · subst hjk; rw [Hr.out]; exact e1
                · exact HN1.out j (by omega)⟩
              clear e1
              go_wp2_with (first
                | (go_at_call 36; refine (ref_run (r := r) G3.out G4.out Hby.out.1 Hby.out.2).mono ?_; rintro e w4 ⟨rfl, hb1⟩; rw [hd1.out]; have HX4 := Kp.mk ((hb1.block _ (lt_of_block HX.out)).trans HX.out); have HB4 := Kp.mk (below_then HB.out HWs.out hb1); clear hb1))
              go_roundw
              case rel => exact ⟨k + 1, by omega, by go_num, hv1, HX4, HB4⟩
              case measure => simp [intOf]; omega
            · have hd1 : Kp (decide (rnOk r) = false) := ⟨decide_eq_false e1⟩
              have hv : Kp (false = true ↔ EOk add drop nx lg sq) := ⟨⟨(fun h => by cases h), fun h => absurd (h.2.2.1 k (by rw [← Hn.out]; exact hlt)) (by rw [Hr.out]; exact e1)⟩⟩
              clear e1
              go_wp2_with (first
                | (go_at_call 36; refine (ref_run (r := r) G3.out G4.out Hby.out.1 Hby.out.2).mono ?_; rintro e w4 ⟨rfl, hb1⟩; rw [hd1.out]; have HB4 := Kp.mk (below_then HB.out HWs.out hb1); clear hb1))
              go_ret
              exact ⟨_, rfl, hv.out, HB4.out⟩
          · have hkn : k = n := by omega
            have V1 : Kp (∀ j, j < add.length → rnOk (add.getD j zRn)) := ⟨fun j hj => HN1.out j (by rw [hkn, Hn.out]; exact hj)⟩
            clear hkn HN1
            go_wp2_with fail
            go_loopw [4] (fun i w3 => ∃ k : Nat, k ≤ drop.length ∧ i = .int .i64 k ∧ Kp (∀ j, j < k → 1 ≤ drop.getD j 0 ∧ drop.getD j 0 ≤ 1099511627776) ∧ w3 = wr) (fun i _ => drop.length - (intOf i).toNat)
            case atStart => exact ⟨0, Nat.zero_le _, rfl, ⟨by omega⟩, rfl⟩
            case round =>
              obtain ⟨q, hq, rfl, HM1, rfl⟩ := hrel
              by_cases hqt : q < drop.length
              · obtain ⟨ad, rfl, c0⟩ := ints_at (Kd.C_below H'.out HB.out) q hqt
                obtain ⟨y, hy⟩ : ∃ y, drop.getD q 0 = y := ⟨_, rfl⟩
                rw [hy] at c0
                have Hy := Kp.mk hy
                clear hy
                by_cases e0 : 1 ≤ y ∧ y ≤ 1099511627776
                · obtain ⟨y1, y2⟩ := e0
                  have hv1 : Kp (∀ j, j < q + 1 → 1 ≤ drop.getD j 0 ∧ drop.getD j 0 ≤ 1099511627776) := ⟨fun j hj => by
                    by_cases hjk : j = q
                    · subst hjk; rw [Hy.out]; exact ⟨y1, y2⟩
                    · exact HM1.out j (by omega)⟩
                  go_wp2_with fail
                  go_roundw
                  case rel => exact ⟨q + 1, by omega, by go_num, hv1, trivial⟩
                  case measure => simp [intOf]; omega
                · have hv : Kp (false = true ↔ EOk add drop nx lg sq) := ⟨⟨(fun h => by cases h), fun h => absurd (h.2.2.2.2 q hqt) (by rw [Hy.out]; exact e0)⟩⟩
                  by_cases y1 : y < 1
                  · clear e0
                    go_wp2_with fail
                    go_ret
                    exact ⟨_, rfl, hv.out, HB.out⟩
                  · have y2 : 1099511627776 < y := by omega
                    clear e0
                    go_wp2_with fail
                    go_ret
                    exact ⟨_, rfl, hv.out, HB.out⟩
              · have hv : Kp (∀ b : Bool, b = true → (b = true ↔ EOk add drop nx lg sq)) := ⟨fun b hb => ⟨fun _ => ⟨by rw [← Hn.out, ← Hm.out]; exact Hd.out, Hb1.out, V1.out, Hb3.out, fun j hj => HM1.out j (by omega)⟩, fun _ => hb⟩⟩
                go_wp2_with fail
                go_ret
                exact ⟨true, rfl, hv.out true rfl, HB.out⟩
  · rw [hm] at hd
    go_enter Try.func28, Try.ntmps28
    go_wp2_with fail
    all_goals
      first
      | (exfalso; refine hd ?_; unfold eHead; omega)
      | (go_ret; exact ⟨_, rfl, ⟨(fun h => by cases h), fun h => absurd (by rw [Hn.out]; exact h.1) hd⟩, alloc_below _ _⟩)
end Go.Proofs.Ytgfkpddmjcgceaa.Kx
