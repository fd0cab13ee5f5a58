import Derived.Test.YtpgkpigpehehmaaMrgT
import Derived.Test.YtpgkpigpehehmaaMrgW
import Derived.Laws.MakeOwn
set_option linter.unusedVariables false
set_option linter.unusedSimpArgs false
namespace Go.Proofs.Ytpgkpigpehehmaa.Bas
open Go.RowKit Go.Maps Go.Sort Go.Shelf

/-- What the reference's Merge tells. -/
def MergeQ (w0 : World) (ess : List (List En)) (e : Ending) (w' : World) : Prop :=
  Below w0.heap.size w0 w' ∧
    ((allRise ess = false ∧ e = .returned (.tuple #[.slice none 0 0, .int .i64 10])) ∨
      (allRise ess = true ∧ ∃ v ps, e = .returned (.tuple #[v, .int .i64 0]) ∧ Ow w0.heap.size w' v ps ∧ Tells ess.flatten (ps.map (·.2))))
theorem Try.infoI64 : (Try.prog.info? 3).map (fun i => (i.zero, i.size, i.bytes)) = some (some (.int .i64 0), 1, 8) := by kernel_rfl
theorem make_ints (W : World) (n : Nat) (hn : n ≤ 1000000) : (Instr.makeSlice 33 (.int .i64 (n : Int)) (.int .i64 (n : Int))).run Try.prog W = .ok (.slice (some ⟨W.heap.size, 0, none⟩) n n) (W.alloc (.cells (madeCells #[.int .i64 0] n) 3)) := by
  obtain ⟨i0, hi, hz0, hz1, hz2⟩ := info_parts Try.infoI64
  have := run_makeSlice (P := Try.prog) W 33 3 i0 (.int .i64 0) Try.underlying33 hi hz0 .i64 .i64 (n : Int) (n : Int) (by omega) (Int.le_refl _) (by rw [hz1]; omega) (by rw [hz2]; omega) (by omega)
  rw [hz1, Nat.mul_one] at this
  exact this
/-- The places, in a row of the call's own. -/
structure AtC (W : World) (g n : Nat) (ats : Nat → Nat) : Prop where
  out : ∃ cs : Array Value, W.heap[g]? = some (.cells cs 3 (0, 0)) ∧ cs.size = n ∧ ∀ i, i < n → cs[i]? = some (.int .i64 (ats i))
theorem AtC.cell {W : World} {g n : Nat} {ats : Nat → Nat} (h : AtC W g n ats) {i : Nat} (hi : i < n) : W.cell? ⟨g, i, none⟩ = some (.int .i64 (ats i)) := by
  obtain ⟨cs, h1, _, h3⟩ := h.out
  exact cells_top h1 i _ (h3 i hi)
theorem AtC.free {W : World} {g n : Nat} {ats : Nat → Nat} (h : AtC W g n ats) (i : Nat) : W.frozen? ⟨g, i, none⟩ = false := by
  obtain ⟨cs, h1, _, _⟩ := h.out
  exact free_top h1 i
theorem AtC.lt {W : World} {g n : Nat} {ats : Nat → Nat} (h : AtC W g n ats) : g < W.heap.size := by
  obtain ⟨cs, h1, _, _⟩ := h.out
  exact lt_of_block h1
theorem AtC.below {W W2 : World} {g n : Nat} {ats : Nat → Nat} (h : AtC W g n ats) (hb : Below W.heap.size W W2) : AtC W2 g n ats := by
  obtain ⟨cs, h1, h2, h3⟩ := h.out
  exact ⟨cs, (hb.block g (lt_of_block h1)).trans h1, h2, h3⟩
theorem AtC.kept {W W2 : World} {g n : Nat} {ats : Nat → Nat} (h : AtC W g n ats) (hb : W2.heap[g]? = W.heap[g]?) : AtC W2 g n ats := by
  obtain ⟨cs, h1, h2, h3⟩ := h.out
  exact ⟨cs, hb.trans h1, h2, h3⟩
theorem AtC.put {W : World} {g n : Nat} {ats : Nat → Nat} (h : AtC W g n ats) {i : Nat} (hi : i < n) (q : Nat) : AtC (W.setCell ⟨g, i, none⟩ (.int .i64 q)) g n (fun j => if j = i then q else ats j) := by
  obtain ⟨cs, h1, h2, h3⟩ := h.out
  refine ⟨_, heap_setCell_same _ _ i _ _ (.int .i64 q) h1, by simp [h2], fun j hj => ?_⟩
  simp only [Array.set!_eq_setIfInBounds, Array.getElem?_setIfInBounds]
  by_cases e : i = j
  · subst e; simp [h2, hj]
  · rw [if_neg e, if_neg (fun h => e h.symm)]; exact h3 j hj
theorem AtC.ext {W : World} {g n : Nat} {ats ats' : Nat → Nat} (h : AtC W g n ats) (he : ∀ i, i < n → ats i = ats' i) : AtC W g n ats' := by
  obtain ⟨cs, h1, h2, h3⟩ := h.out
  exact ⟨cs, h1, h2, fun i hi => by rw [← he i hi]; exact h3 i hi⟩
theorem atC_new (W : World) (n : Nat) : AtC (W.alloc (.cells (madeCells #[.int .i64 0] n) 3)) W.heap.size n (fun _ => 0) :=
  ⟨_, heap_alloc_new W _, by rw [size_madeCells], fun i hi => by simp [madeCells, hi, Nat.mod_one]⟩
/-- The places' block has turned: the row of entries is what it was. -/
theorem Ow.but {B g : Nat} {W W' : World} {v : Value} {ps : List Pr} (h : Ow B W v ps) (hf : Fr W W' (fun k => k = g)) (hg : g < B) (hN : ∀ p ∈ ps, NewV B p.1) : Ow B W' v ps :=
  ⟨row_heap4 h.own (fun k hk => hf.block k (own_blk_lt h.own k hk) (by have := h.base k hk; omega)),
    fun p hp => (h.en p hp).kept hf (fun A n c hm _ he => by have := hN p hp A n c hm; omega), h.apart⟩
def slLen : Value → Nat
  | .slice _ n _ => n
  | _ => 0
theorem Ow.slLen {B : Nat} {W : World} {v : Value} {ps : List Pr} (h : Ow B W v ps) : Bas.slLen v = ps.length := by
  obtain ⟨A, c, rfl⟩ := h.slice
  rfl
set_option maxHeartbeats 8000000 in
set_option maxRecDepth 100000 in
theorem merge_ref {w : World} {A : Option Addr} {n c : Nat} {ess : List (List En)} (h : Ls w A n c ess) (hT : ess.flatten.length ≤ 1000000) :
    Calls Try.prog 9 #[.slice A n c] w (MergeQ w ess) := by
  have hm := h.max
  have hl := h.len
  have H := Kp.mk h
  have HT := Kp.mk hT
  have hmk := fun W => make_ints W n hm
  clear h hT
  go_enter Try.func9, Try.ntmps9
  go_wp2_with fail
  go_loopw [4] (fun i wr => ∃ k : Nat, k ≤ n ∧ i = .int .i64 k ∧ Kp (∀ j, j < k → risesFrom (ess.getD j []) = true) ∧ Kp (Below w.heap.size w wr)) (fun i _ => n - (intOf i).toNat)
  case atStart => exact ⟨0, Nat.zero_le _, rfl, ⟨fun j hj => by omega⟩, ⟨Below.refl _ _⟩⟩
  case round =>
    obtain ⟨k, hk, rfl, HRi, HB⟩ := hrel
    by_cases hlt : k < n
    · obtain ⟨ad, rfl, hc⟩ := H.out.cell (by omega)
      obtain ⟨A', c', x0', hes⟩ := hc k hlt
      have x0 := cell_kept HB.out x0'
      clear x0' hc hmk
      obtain ⟨es, hes0⟩ : ∃ es, es = ess.getD k [] := ⟨_, rfl⟩
      rw [← hes0] at x0 hes
      have Hes0 := Kp.mk hes0
      obtain ⟨m, hm'⟩ : ∃ m, m = es.length := ⟨_, rfl⟩
      rw [← hm'] at x0 hes
      obtain ⟨b, hb⟩ : ∃ b, risesFrom es = b := ⟨_, rfl⟩
      have hris := ref_rising (hes.below HB.out)
      rw [hb] at hris
      have Hris := Kp.mk hris
      have Hb := Kp.mk hb
      clear hris hb hes hes0 hm'
      cases b with
      | false =>
        have HF := Kp.mk (rise_false (ess := ess) (k := k) (by omega) (by rw [← Hes0.out]; exact Hb.out))
        go_wp2_with (go_at_call 15; refine Hris.out.mono ?_; rintro e w1 ⟨rfl, hb1⟩)
        go_ret2
        exact ⟨HB.out.trans (hb1.mono HB.out.size), .inl ⟨HF.out, rfl⟩⟩
      | true =>
        have HRi' : Kp (∀ j, j < k + 1 → risesFrom (ess.getD j []) = true) := ⟨fun j hj => by
          by_cases hjk : j = k
          · subst hjk; rw [← Hes0.out]; exact Hb.out
          · exact HRi.out j (by omega)⟩
        clear HRi
        go_wp2_with (go_at_call 15; refine Hris.out.mono ?_; rintro e w1 ⟨rfl, hb1⟩)
        have HB1 := Kp.mk (HB.out.trans (hb1.mono HB.out.size))
        clear hb1
        go_roundw
        case rel => exact ⟨k + 1, by omega, by go_num, HRi', HB1⟩
        case measure => simp [intOf]; omega
    · obtain rfl : n = k := by omega
      have HAll := Kp.mk (rise_true (ess := ess) (fun j hj => HRi.out j (by omega)))
      go_wp2_with fail
      clear hmk
      obtain ⟨W1, hW1⟩ : ∃ W1, W1 = wr.alloc (.cells (madeCells #[.int .i64 0] n) 3) := ⟨_, rfl⟩
      rw [← hW1]
      have hA0 : AtC W1 wr.heap.size n (fun _ => 0) := by rw [hW1]; exact atC_new wr n
      have hBw : Below w.heap.size w W1 := by rw [hW1]; exact HB.out.trans ((alloc_below wr _).mono HB.out.size)
      have hwg := HB.out.size
      obtain ⟨g, hg⟩ : ∃ g, g = wr.heap.size := ⟨_, rfl⟩
      rw [← hg] at hA0 hwg ⊢
      have HA0 := Kp.mk hA0
      have HB1 := Kp.mk hBw
      have Hwg := Kp.mk hwg
      have Hg1 := Kp.mk hA0.lt
      have HR : Kp (∀ j, j < ess.length → risesFrom (ess.getD j []) = true) := ⟨fun j hj => HRi.out j (by omega)⟩
      obtain ⟨N, hN⟩ : ∃ N, N = ess.flatten.length := ⟨_, rfl⟩
      have HN := Kp.mk hN
      clear hA0 hBw hwg hg hW1 HB HRi hN hlt hk
      go_loopw [5] (fun v wo => ∃ (ats : Nat → Nat) (ps : List Pr), Kp (AtC wo g n ats) ∧ Kp (Ow W1.heap.size wo v ps) ∧ Kp (MSt ess ats (ps.map (·.2))) ∧ Kp (Fr W1 wo (fun k => k = g)) ∧ Kp (∀ p ∈ ps, NewV W1.heap.size p.1)) (fun v _ => N + 1 - slLen v)
      case atStart => exact ⟨fun _ => 0, [], HA0, ⟨Ow.nil _ _⟩, ⟨MSt.start ess⟩, ⟨Fr.refl _ _⟩, ⟨fun p hp => by cases hp⟩⟩
      case round =>
        obtain ⟨ats, ps, HA, HO, HM, HF, HNw⟩ := hrel
        obtain ⟨wo, hwo⟩ : ∃ wo : World, wo = wr := ⟨_, rfl⟩
        subst hwo
        have HBo : Kp (Below w.heap.size w wo) := ⟨HB1.out.trans (HF.out.toBelow (fun k hk => by rw [hk]; exact Hwg.out) HB1.out.size)⟩
        go_wp2_with fail
        go_loopw [7, 8] (fun s t w3 => ∃ i : Nat, t = .int .i64 i ∧ i ≤ n ∧ Kp (Below wo.heap.size wo w3) ∧ ((s = .int .i64 (-1) ∧ Kp (∀ j, j < i → ¬ ats j < (ess.getD j []).length)) ∨ ∃ b : Nat, s = .int .i64 b ∧ Kp (Best ess ats i b))) (fun _ t _ => n - (intOf t).toNat)
        case atStart => exact ⟨0, rfl, Nat.zero_le _, ⟨Below.refl _ _⟩, .inl ⟨rfl, ⟨fun j hj => by omega⟩⟩⟩
        case round =>
          obtain ⟨i, rfl, hi, HB3, hs⟩ := hrel
          by_cases hlt : i < n
          · have HBw3 : Kp (Below w.heap.size w wr) := ⟨HBo.out.trans (HB3.out.mono HBo.out.size)⟩
            have HA3 := Kp.mk (HA.out.below HB3.out)
            obtain ⟨ad, rfl, hc⟩ := H.out.cell (by omega)
            obtain ⟨A', c', x0', hes⟩ := hc i hlt
            have x0 := cell_kept HBw3.out x0'
            have HEi := Kp.mk (hes.below HBw3.out)
            have HC := Kp.mk hc
            clear x0' hc hes
            obtain ⟨m, hm'⟩ : ∃ m, m = (ess.getD i []).length := ⟨_, rfl⟩
            rw [← hm'] at x0 HEi
            obtain ⟨q, hq⟩ : ∃ q, q = ats i := ⟨_, rfl⟩
            have y0 := HA3.out.cell hlt
            rw [← hq] at y0
            have Hm' := Kp.mk hm'
            have Hq := Kp.mk hq
            clear hm' hq
            have X0 := blw_cell x0
            have Y0 := blw_cell y0
            by_cases hqm : q < m
            · have hqz : (q : Int) < (m : Int) := by omega
              have Hhas : Kp (ats i < (ess.getD i []).length) := ⟨by rw [← Hq.out, ← Hm'.out]; exact hqm⟩
              rcases hs with ⟨rfl, HNo⟩ | ⟨b, rfl, HBe⟩
              · have HNx : Kp (Best ess ats (i + 1) i) := ⟨Best.none_next HNo.out Hhas.out⟩
                clear x0 y0 HNo
                go_wp2_with fail
                refine wp_region_below (by kernel_rfl) (by kernel_rfl) ?_
                repeat (first | go_big_quiet_step (fail) | quiet_step (fail))
                refine wpQuiet_nil ?_
                rintro _ ⟨pq, rfl⟩
                have HB4 := Kp.mk (HB3.out.trans (pq.h.mono HB3.out.size))
                go_wp2_with fail
                go_roundw
                case rel => exact ⟨i + 1, by first | rfl | go_num, by omega, HB4, .inr ⟨i, rfl, HNx⟩⟩
                case measure => simp [intOf]; omega
              · have hb0 : ¬ (b : Int) < 0 := by omega
                have hbi : b < n := by have := HBe.out.lt; omega
                obtain ⟨Ab, cb, z0', hesb⟩ := HC.out b hbi
                have z0 := cell_kept HBw3.out z0'
                have hEb := hesb.below HBw3.out
                obtain ⟨mb, hmb⟩ : ∃ mb, mb = (ess.getD b []).length := ⟨_, rfl⟩
                rw [← hmb] at z0 hEb
                obtain ⟨qb, hqb⟩ : ∃ qb, qb = ats b := ⟨_, rfl⟩
                have y1 := HA3.out.cell hbi
                rw [← hqb] at y1
                have hqbm : qb < mb := by rw [hqb, hmb]; exact HBe.out.has
                have hqbz : (qb : Int) < (mb : Int) := by omega
                obtain ⟨g1, o1, rfl, hc1⟩ := HEi.out.cell (by omega)
                obtain ⟨us, hu, hu'⟩ := hc1 q hqm
                obtain ⟨g2, o2, rfl, hc2⟩ := hEb.cell (by omega)
                obtain ⟨vs, hv, hv'⟩ := hc2 qb hqbm
                have e1 : (ess.getD i []).getD q enD = hd ess ats i := by rw [Hq.out]; rfl
                have e2 : (ess.getD b []).getD qb enD = hd ess ats b := by rw [hqb]; rfl
                rw [e1] at hu
                rw [e2] at hv
                obtain ⟨ei, hei⟩ : ∃ ei, ei = hd ess ats i := ⟨_, rfl⟩
                obtain ⟨eb, heb⟩ : ∃ eb, eb = hd ess ats b := ⟨_, rfl⟩
                rw [← hei] at hu
                rw [← heb] at hv
                have Hei := Kp.mk hei
                have Heb := Kp.mk heb
                obtain ⟨A0, n0, c0, A0', n0', c0', rfl, a1, a2, a3, a4⟩ := hu
                obtain ⟨A1, n1, c1, A1', n1', c1', rfl, b1, b2, b3, b4⟩ := hv
                have u0 : wr.cell? ⟨g1, o1 + q * 4, none⟩ = some (.slice A0 n0 c0) := hu' 0 _ rfl
                have u1 : wr.cell? ⟨g1, o1 + q * 4 + 1, none⟩ = some (.int .u64 ei.k.seq) := hu' 1 _ rfl
                have u2 : wr.cell? ⟨g1, o1 + q * 4 + 2, none⟩ = some (.int .i64 ei.k.kind) := hu' 2 _ rfl
                have v0 : wr.cell? ⟨g2, o2 + qb * 4, none⟩ = some (.slice A1 n1 c1) := hv' 0 _ rfl
                have v1 : wr.cell? ⟨g2, o2 + qb * 4 + 1, none⟩ = some (.int .u64 eb.k.seq) := hv' 1 _ rfl
                have v2 : wr.cell? ⟨g2, o2 + qb * 4 + 2, none⟩ = some (.int .i64 eb.k.kind) := hv' 2 _ rfl
                obtain ⟨d, hd'⟩ : ∃ d, d = keyCmp ei.k eb.k := ⟨_, rfl⟩
                have HCm : Kp (∀ W, Below wr.heap.size wr W → Calls Try.prog 22 #[.agg #[.slice A0 n0 c0, .int .u64 ei.k.seq, .int .i64 ei.k.kind], .agg #[.slice A1 n1 c1, .int .u64 eb.k.seq, .int .i64 eb.k.kind]] W (fun e w' => e = .returned (.int .i64 d) ∧ Below W.heap.size W w')) := ⟨fun W hb => by
                  rw [hd']
                  exact ref_key_compare ⟨_, _, _, rfl, a1.below hb, a2⟩ ⟨_, _, _, rfl, b1.below hb, b2⟩⟩
                have Hd := Kp.mk hd'
                have Z0 := blw_cell z0
                have Y1 := blw_cell y1
                have U0 := blw_cell u0
                have U1 := blw_cell u1
                have U2 := blw_cell u2
                have V0 := blw_cell v0
                have V1 := blw_cell v1
                have V2 := blw_cell v2
                clear x0 y0 z0' z0 y1 u0 u1 u2 v0 v1 v2 hu' hv' hc1 hc2 hei heb hd' e1 e2 a1 a2 a3 a4 b1 b2 b3 b4 hqb hmb hesb hEb
                by_cases hneg : d < 0
                · have HNx : Kp (Best ess ats (i + 1) i) := ⟨HBe.out.turn Hhas.out (by rw [← Hei.out, ← Heb.out, ← Hd.out]; exact hneg)⟩
                  go_wp2_with fail
                  refine wp_region_below (by kernel_rfl) (by kernel_rfl) ?_
                  repeat (first | go_big_quiet_step ((go_at_call 22; exact calls_blw (HCm.out _ (Blw.h _)))) | quiet_step ((go_at_call 22; exact calls_blw (HCm.out _ (Blw.h _)))))
                  refine wpQuiet_nil ?_
                  rintro _ ⟨pq, rfl⟩
                  have HB4 := Kp.mk (HB3.out.trans (pq.h.mono HB3.out.size))
                  go_wp2_with fail
                  go_roundw
                  case rel => exact ⟨i + 1, by first | rfl | go_num, by omega, HB4, .inr ⟨i, rfl, HNx⟩⟩
                  case measure => simp [intOf]; omega
                · have HNx : Kp (Best ess ats (i + 1) b) := ⟨HBe.out.stay (by rw [← Hei.out, ← Heb.out, ← Hd.out]; exact hneg)⟩
                  go_wp2_with fail
                  refine wp_region_below (by kernel_rfl) (by kernel_rfl) ?_
                  repeat (first | go_big_quiet_step ((go_at_call 22; exact calls_blw (HCm.out _ (Blw.h _)))) | quiet_step ((go_at_call 22; exact calls_blw (HCm.out _ (Blw.h _)))))
                  refine wpQuiet_nil ?_
                  rintro _ ⟨pq, rfl⟩
                  have HB4 := Kp.mk (HB3.out.trans (pq.h.mono HB3.out.size))
                  go_wp2_with fail
                  go_roundw
                  case rel => exact ⟨i + 1, by first | rfl | go_num, by omega, HB4, .inr ⟨b, rfl, HNx⟩⟩
                  case measure => simp [intOf]; omega
            · have hqz : ¬ (q : Int) < (m : Int) := by omega
              have Hno : Kp (¬ ats i < (ess.getD i []).length) := ⟨by rw [← Hq.out, ← Hm'.out]; exact hqm⟩
              clear x0 y0
              go_wp2_with fail
              refine wp_region_below (by kernel_rfl) (by kernel_rfl) ?_
              repeat (first | go_big_quiet_step (fail) | quiet_step (fail))
              refine wpQuiet_nil ?_
              rintro _ ⟨pq, rfl⟩
              have HB4 := Kp.mk (HB3.out.trans (pq.h.mono HB3.out.size))
              go_wp2_with fail
              go_roundw
              case rel =>
                refine ⟨i + 1, by first | rfl | go_num, by omega, HB4, ?_⟩
                rcases hs with ⟨rfl, HNo⟩ | ⟨b, rfl, HBe⟩
                · exact .inl ⟨rfl, ⟨fun j hj => by
                    by_cases e : j = i
                    · subst e; exact Hno.out
                    · exact HNo.out j (by omega)⟩⟩
                · exact .inr ⟨b, rfl, ⟨HBe.out.skip Hno.out⟩⟩
              case measure => simp [intOf]; omega
          · obtain rfl : n = i := by omega
            have HBw3 : Kp (Below w.heap.size w wr) := ⟨HBo.out.trans (HB3.out.mono HBo.out.size)⟩
            have HO3 := Kp.mk (HO.out.below HB3.out)
            have HA3 := Kp.mk (HA.out.below HB3.out)
            have HF3 : Kp (Fr W1 wr (fun k => k = g)) := ⟨HF.out.below HB3.out⟩
            clear HO HA HF HB3
            rcases hs with ⟨rfl, HNo⟩ | ⟨b, rfl, HBe⟩
            · have HTe := Kp.mk (HM.out.over (fun j hj => HNo.out j (by omega)))
              go_wp2_with fail
              go_ret2
              exact ⟨HBw3.out, .inr ⟨HAll.out, _, ps, rfl, HO3.out.lower HB1.out.size, HTe.out⟩⟩
            · have hb0 : ¬ (b : Int) < 0 := by omega
              have hbn : b < n := by have := HBe.out.lt; omega
              obtain ⟨ad, rfl, hc⟩ := H.out.cell (by omega)
              obtain ⟨A', c', x0', hes⟩ := hc b hbn
              have x0 := cell_kept HBw3.out x0'
              have hEb := hes
              clear x0' hc hes
              obtain ⟨m, hm'⟩ : ∃ m, m = (ess.getD b []).length := ⟨_, rfl⟩
              rw [← hm'] at x0 hEb
              obtain ⟨q, hq⟩ : ∃ q, q = ats b := ⟨_, rfl⟩
              have y0 := HA3.out.cell hbn
              rw [← hq] at y0
              have hqm : q < m := by rw [hq, hm']; exact HBe.out.has
              have hqz : (q : Int) < (m : Int) := by omega
              obtain ⟨g2, o2, rfl, hc2⟩ := hEb.cell (by omega)
              obtain ⟨vs, hv, hv'⟩ := hc2 q hqm
              have e2 : (ess.getD b []).getD q enD = hd ess ats b := by rw [hq]; rfl
              rw [e2] at hv
              obtain ⟨eb, heb⟩ : ∃ eb, eb = hd ess ats b := ⟨_, rfl⟩
              rw [← heb] at hv
              have Heb := Kp.mk heb
              have Hv := Kp.mk (hv.below HBw3.out)
              have HVl := Kp.mk hv.lt
              obtain ⟨A1, n1, c1, A1', n1', c1', rfl, b1, b2, b3, b4⟩ := hv
              have v0 : wr.cell? ⟨g2, o2 + q * 4, none⟩ = some (.slice A1 n1 c1) := cell_kept HBw3.out (hv' 0 _ rfl)
              have v1 : wr.cell? ⟨g2, o2 + q * 4 + 1, none⟩ = some (.int .u64 eb.k.seq) := cell_kept HBw3.out (hv' 1 _ rfl)
              have v2 : wr.cell? ⟨g2, o2 + q * 4 + 2, none⟩ = some (.int .i64 eb.k.kind) := cell_kept HBw3.out (hv' 2 _ rfl)
              have v3 : wr.cell? ⟨g2, o2 + q * 4 + 3, none⟩ = some (.slice A1' n1' c1') := cell_kept HBw3.out (hv' 3 _ rfl)
              clear hv' hc2 heb e2 b1 b2 b3 b4 hq hm' hEb
              go_wp2_with fail
              go_region_held3 (fun W => W.cell? (ad.add b) = some (.slice (some ⟨g2, o2, none⟩) m c') ∧ W.cell? ⟨g, b, none⟩ = some (.int .i64 q) ∧ W.cell? ⟨g2, o2 + q * 4, none⟩ = some (.slice A1 n1 c1) ∧ W.cell? ⟨g2, o2 + q * 4 + 1, none⟩ = some (.int .u64 eb.k.seq) ∧ W.cell? ⟨g2, o2 + q * 4 + 2, none⟩ = some (.int .i64 eb.k.kind) ∧ W.cell? ⟨g2, o2 + q * 4 + 3, none⟩ = some (.slice A1' n1' c1')) (first | go_keep | exact ⟨x0, y0, v0, v1, v2, v3⟩) (fail)
              obtain ⟨W2, hW2⟩ : ∃ W2, W2 = (wr.alloc (.cells #[.slice A1 n1 c1, .int .u64 eb.k.seq, .int .i64 eb.k.kind, .slice A1' n1' c1'] 40)).drew := ⟨_, rfl⟩
              rw [← hW2]
              have hb2 : Below wr.heap.size wr W2 := by rw [hW2]; exact (alloc_below wr _).drew
              have hz2 : W2.heap[wr.heap.size]? = some (.cells #[.slice A1 n1 c1, .int .u64 eb.k.seq, .int .i64 eb.k.kind, .slice A1' n1' c1'] 40) := by rw [hW2]; exact heap_alloc_new wr _
              obtain ⟨z, hz⟩ : ∃ z, z = wr.heap.size := ⟨_, rfl⟩
              have HA4 := Kp.mk (HA3.out.below hb2)
              have HO4 := Kp.mk (HO3.out.below hb2)
              have HF4 : Kp (Fr W1 W2 (fun k => k = g)) := ⟨HF3.out.below hb2⟩
              have Hv4 := Kp.mk (Hv.out.below hb2)
              have HBw4 : Kp (Below w.heap.size w W2) := ⟨HBw3.out.trans (hb2.mono HBw3.out.size)⟩
              have HVg : Kp (∀ A n c, Value.slice (some A) n c ∈ (#[.slice A1 n1 c1, .int .u64 eb.k.seq, .int .i64 eb.k.kind, .slice A1' n1' c1'] : Array Value).toList → 0 < n → ¬ A.block = g) := ⟨fun A n c hm hn hk => by have := HVl.out A n c hm hn; have := Hwg.out; omega⟩
              have Hzg : Kp (z ≠ g) := ⟨by rw [hz]; exact Nat.ne_of_gt HA3.out.lt⟩
              rw [← hz] at hz2 ⊢
              have Hz2 := Kp.mk hz2
              clear hb2 hz2 hz hW2 HA3 HO3 HF3 Hv HBw3 x0 y0 v0 v1 v2 v3
              go_wp2_with fail
              go_loopw [10] (fun s w4 => ∃ i : Nat, s = .int .i64 i ∧ i ≤ n ∧ Kp (AtC w4 g n (fun j => if j < i then nextAt ess ats eb j else ats j)) ∧ Kp (Fr W2 w4 (fun k => k = g))) (fun s _ => n - (intOf s).toNat)
              case atStart => exact ⟨0, rfl, Nat.zero_le _, ⟨HA4.out.ext (fun i _ => by rw [if_neg (Nat.not_lt_zero _)])⟩, ⟨Fr.refl _ _⟩⟩
              case round =>
                obtain ⟨i, rfl, hi, HA5, HF5⟩ := hrel
                have HBw5 : Kp (Below w.heap.size w wr) := ⟨HBw4.out.trans (HF5.out.toBelow (fun k hk => by rw [hk]; exact Hwg.out) HBw4.out.size)⟩
                have Hz5 := Kp.mk ((HF5.out.block z (lt_of_block Hz2.out) Hzg.out).trans Hz2.out)
                by_cases hlt : i < n
                · obtain ⟨ad', e0, hc⟩ := H.out.cell (by omega)
                  obtain rfl : ad' = ad := by injection e0 with e0; exact e0.symm
                  obtain ⟨A', c', x0', hes⟩ := hc i hlt
                  have x0 := cell_kept HBw5.out x0'
                  have hEi := hes.below HBw5.out
                  clear x0' hc hes e0
                  obtain ⟨m', hm'⟩ : ∃ m', m' = (ess.getD i []).length := ⟨_, rfl⟩
                  rw [← hm'] at x0 hEi
                  obtain ⟨q', hq'⟩ : ∃ q', q' = ats i := ⟨_, rfl⟩
                  have y0 := HA5.out.cell hlt
                  rw [if_neg (Nat.lt_irrefl i), ← hq'] at y0
                  have Hmm := hEi.max
                  have X0 := blw_cell x0
                  have Y0 := blw_cell y0
                  by_cases hqm' : q' < m'
                  · have hqz' : (q' : Int) < (m' : Int) := by omega
                    obtain ⟨g1, o1, rfl, hc1⟩ := hEi.cell (by omega)
                    obtain ⟨us, hu, hu'⟩ := hc1 q' hqm'
                    have e1 : (ess.getD i []).getD q' enD = hd ess ats i := by rw [hq']; rfl
                    rw [e1] at hu
                    obtain ⟨ei, hei⟩ : ∃ ei, ei = hd ess ats i := ⟨_, rfl⟩
                    rw [← hei] at hu
                    obtain ⟨A0, n0, c0, A0', n0', c0', rfl, a1, a2, a3, a4⟩ := hu
                    have u0 : wr.cell? ⟨g1, o1 + q' * 4, none⟩ = some (.slice A0 n0 c0) := hu' 0 _ rfl
                    have u1 : wr.cell? ⟨g1, o1 + q' * 4 + 1, none⟩ = some (.int .u64 ei.k.seq) := hu' 1 _ rfl
                    have u2 : wr.cell? ⟨g1, o1 + q' * 4 + 2, none⟩ = some (.int .i64 ei.k.kind) := hu' 2 _ rfl
                    obtain ⟨d, hd'⟩ : ∃ d, d = keyCmp ei.k eb.k := ⟨_, rfl⟩
                    have HCm : Kp (∀ W, Below wr.heap.size wr W → Calls Try.prog 22 #[.agg #[.slice A0 n0 c0, .int .u64 ei.k.seq, .int .i64 ei.k.kind], .agg #[.slice A1 n1 c1, .int .u64 eb.k.seq, .int .i64 eb.k.kind]] W (fun e w' => e = .returned (.int .i64 d) ∧ Below W.heap.size W w')) := ⟨fun W hb => by
                      rw [hd']
                      have hv := (Hv4.out.kept HF5.out (fun A n c hm hn hk => ?_)).below hb
                      · obtain ⟨_, _, _, _, _, _, e1, f1, f2, _⟩ := hv
                        simp at e1
                        obtain ⟨⟨rfl, rfl, rfl⟩, -⟩ := e1
                        exact ref_key_compare ⟨_, _, _, rfl, a1.below hb, a2⟩ ⟨_, _, _, rfl, f1, f2⟩
                      · exact HVg.out A n c hm hn hk⟩
                    have V0 := blw_cell (cells_top Hz5.out 0 (.slice A1 n1 c1) rfl)
                    have V1 := blw_cell (cells_top Hz5.out 1 (.int .u64 eb.k.seq) rfl)
                    have V2 := blw_cell (cells_top Hz5.out 2 (.int .i64 eb.k.kind) rfl)
                    have U0 := blw_cell u0
                    have U1 := blw_cell u1
                    have U2 := blw_cell u2
                    have Hnx : Kp (nextAt ess ats eb i = if d = 0 then q' + 1 else q') := ⟨by
                      unfold nextAt
                      rw [← hei, ← hd', ← hq', ← hm']
                      by_cases h0 : d = 0
                      · rw [if_pos ⟨hqm', h0⟩, if_pos h0]
                      · rw [if_neg (fun h => h0 h.2), if_neg h0]⟩
                    have rq : IntKind.i64.wrap ((q' : Int) + 1) = ((q' + 1 : Nat) : Int) := by rw [IntKind.wrap_i64]; omega
                    have Hqa := Kp.mk hq'
                    clear x0 y0 u0 u1 u2 hu' hc1 hei hd' e1 a1 a2 a3 a4 hq' hm' hEi
                    by_cases hd0 : d = 0
                    · have hdz : (d == 0) = true := by simp [hd0]
                      rw [if_pos hd0] at Hnx
                      clear hd0
                      go_wp2_with fail
                      refine wp_region_below (by kernel_rfl) (by kernel_rfl) ?_
                      repeat (first | go_big_quiet_step ((go_at_call 22; exact calls_blw (HCm.out _ (Blw.h _)))) | quiet_step ((go_at_call 22; exact calls_blw (HCm.out _ (Blw.h _)))))
                      refine wpQuiet_nil ?_
                      rintro _ ⟨pq, rfl⟩
                      have HA6 := Kp.mk (HA5.out.below pq.h)
                      have y0 := HA6.out.cell hlt
                      rw [if_neg (Nat.lt_irrefl i), ← Hqa.out] at y0
                      have y1 := HA6.out.free i
                      have HF6 : Kp (Fr W2 (pq.v.setCell ⟨g, i, none⟩ (.int .i64 ((q' + 1 : Nat) : Int))) (fun k => k = g)) := ⟨(HF5.out.below pq.h).setCell (a := ⟨g, i, none⟩) (.inl rfl) _⟩
                      have HA7 : Kp (AtC (pq.v.setCell ⟨g, i, none⟩ (.int .i64 ((q' + 1 : Nat) : Int))) g n (fun j => if j < i + 1 then nextAt ess ats eb j else ats j)) := ⟨(HA6.out.put hlt (q' + 1)).ext (fun j _ => by
                        by_cases e : j = i
                        · subst e; rw [if_pos rfl, if_pos (Nat.lt_succ_self _), Hnx.out]
                        · rw [if_neg e]
                          by_cases h1 : j < i
                          · rw [if_pos h1, if_pos (by omega)]
                          · rw [if_neg h1, if_neg (by omega)])⟩
                      go_wp2_with fail
                      go_roundw
                      case rel => exact ⟨i + 1, by first | rfl | go_num, by omega, HA7, HF6⟩
                      case measure => simp [intOf]; omega
                    · have hdz : (d == 0) = false := by simp [hd0]
                      rw [if_neg hd0] at Hnx
                      clear hd0
                      go_wp2_with fail
                      refine wp_region_below (by kernel_rfl) (by kernel_rfl) ?_
                      repeat (first | go_big_quiet_step ((go_at_call 22; exact calls_blw (HCm.out _ (Blw.h _)))) | quiet_step ((go_at_call 22; exact calls_blw (HCm.out _ (Blw.h _)))))
                      refine wpQuiet_nil ?_
                      rintro _ ⟨pq, rfl⟩
                      have HA7 : Kp (AtC pq.v g n (fun j => if j < i + 1 then nextAt ess ats eb j else ats j)) := ⟨(HA5.out.below pq.h).ext (fun j _ => by
                        by_cases e : j = i
                        · subst e; rw [if_neg (Nat.lt_irrefl _), if_pos (Nat.lt_succ_self _), Hnx.out, Hqa.out]
                        · by_cases h1 : j < i
                          · rw [if_pos h1, if_pos (by omega)]
                          · rw [if_neg h1, if_neg (by omega)])⟩
                      go_wp2_with fail
                      go_roundw
                      case rel => exact ⟨i + 1, by first | rfl | go_num, by omega, HA7, ⟨HF5.out.below pq.h⟩⟩
                      case measure => simp [intOf]; omega
                  · have hqz' : ¬ (q' : Int) < (m' : Int) := by omega
                    have Hnx : Kp (nextAt ess ats eb i = ats i) := ⟨by
                      unfold nextAt
                      rw [← hq', ← hm', if_neg (fun h => hqm' h.1)]⟩
                    clear x0 y0 hq' hm' hEi
                    go_wp2_with fail
                    refine wp_region_below (by kernel_rfl) (by kernel_rfl) ?_
                    repeat (first | go_big_quiet_step (fail) | quiet_step (fail))
                    refine wpQuiet_nil ?_
                    rintro _ ⟨pq, rfl⟩
                    have HA7 : Kp (AtC pq.v g n (fun j => if j < i + 1 then nextAt ess ats eb j else ats j)) := ⟨(HA5.out.below pq.h).ext (fun j _ => by
                      by_cases e : j = i
                      · subst e; rw [if_neg (Nat.lt_irrefl _), if_pos (Nat.lt_succ_self _), Hnx.out]
                      · by_cases h1 : j < i
                        · rw [if_pos h1, if_pos (by omega)]
                        · rw [if_neg h1, if_neg (by omega)])⟩
                    go_wp2_with fail
                    go_roundw
                    case rel => exact ⟨i + 1, by first | rfl | go_num, by omega, HA7, ⟨HF5.out.below pq.h⟩⟩
                    case measure => simp [intOf]; omega
                · obtain rfl : n = i := by omega
                  have HA6 : Kp (AtC wr g n (nextAt ess ats eb)) := ⟨HA5.out.ext (fun j hj => by rw [if_pos hj])⟩
                  have HO6 := Kp.mk (HO4.out.but HF5.out Hg1.out HNw.out)
                  have HF6 : Kp (Fr W1 wr (fun k => k = g)) := ⟨HF4.out.trans HF5.out (fun k hk => .inl hk)⟩
                  have Hv6 := Kp.mk (Hv4.out.kept HF5.out HVg.out)
                  have HM6 : Kp (MSt ess (nextAt ess ats eb) (ps.map (·.2) ++ [eb])) := ⟨by
                    have := HM.out.step HR.out (by rw [hl]; exact HBe.out)
                    rwa [← Heb.out] at this⟩
                  have HL6 : Kp (ps.length + 1 ≤ N) := ⟨by
                    have := HM6.out.short
                    rw [List.length_append, List.length_map, List.length_singleton, ← HN.out] at this
                    exact this⟩
                  have y0 := cells_top Hz5.out 0 (.slice A1 n1 c1) rfl
                  have y1 := cells_top Hz5.out 1 (.int .u64 eb.k.seq) rfl
                  have y2 := cells_top Hz5.out 2 (.int .i64 eb.k.kind) rfl
                  have y3 := cells_top Hz5.out 3 (.slice A1' n1' c1') rfl
                  go_wp2_with (first
                    | ((go_at_call 23; refine (copy_any Hv6.out).mono ?_; rintro e w6 ⟨vs', rfl, he, hb6, hnew⟩)
                       have He := Kp.mk he
                       have Hnw := Kp.mk hnew
                       obtain ⟨B3, n3, d3, B3', n3', d3', rfl, f1, f2, f3, f4⟩ := he
                       have hB7 : Below wr.heap.size wr (w6.alloc (.cells #[.slice B3 n3 d3, .int .u64 eb.k.seq, .int .i64 eb.k.kind, .slice B3' n3' d3'] 40)) := hb6.trans ((alloc_below w6 (.cells #[.slice B3 n3 d3, .int .u64 eb.k.seq, .int .i64 eb.k.kind, .slice B3' n3' d3'] 40)).mono hb6.size)
                       have HA7 := Kp.mk (HA6.out.below hB7)
                       have HO7 := Kp.mk (HO6.out.below hB7)
                       have HF7 : Kp (Fr W1 (w6.alloc (.cells #[.slice B3 n3 d3, .int .u64 eb.k.seq, .int .i64 eb.k.kind, .slice B3' n3' d3'] 40)) (fun k => k = g)) := ⟨HF6.out.below hB7⟩
                       have HE7 := Kp.mk (He.out.below (alloc_below w6 (.cells #[.slice B3 n3 d3, .int .u64 eb.k.seq, .int .i64 eb.k.kind, .slice B3' n3' d3'] 40)))
                       have HQ7 : Kp (∀ A n c, Value.slice (some A) n c ∈ (#[.slice B3 n3 d3, .int .u64 eb.k.seq, .int .i64 eb.k.kind, .slice B3' n3' d3'] : Array Value).toList → 0 < n → some A.block ≠ u5.ownBlock) := ⟨fun A n c hm _ he => by
                         have h1 := Hnw.out A n c hm
                         have h2 := own_blk_lt HO6.out.own A.block he.symm
                         omega⟩
                       have HC7 : Kp (∀ (j : Nat) (u : Value), (#[.slice B3 n3 d3, .int .u64 eb.k.seq, .int .i64 eb.k.kind, .slice B3' n3' d3'] : Array Value)[j]? = some u → (w6.alloc (.cells #[.slice B3 n3 d3, .int .u64 eb.k.seq, .int .i64 eb.k.kind, .slice B3' n3' d3'] 40)).cell? ((⟨w6.heap.size, 0, none⟩ : Addr).add j) = some u) := ⟨fun j u hu => by
                         rw [Addr.add_lit, Nat.zero_add]
                         exact cells_top (heap_alloc_new w6 _) j u hu⟩
                       have HL7 : Kp (ps.length + 1 ≤ 2000000) := ⟨by have := HL6.out; have := HT.out; have := HN.out; omega⟩
                       have HS7 : Kp (W1.heap.size ≤ (w6.alloc (.cells #[.slice B3 n3 d3, .int .u64 eb.k.seq, .int .i64 eb.k.kind, .slice B3' n3' d3'] 40)).heap.size) := ⟨HF7.out.size⟩
                       have HN8 : Kp (∀ p ∈ ps ++ [((#[.slice B3 n3 d3, .int .u64 eb.k.seq, .int .i64 eb.k.kind, .slice B3' n3' d3'] : Array Value), eb)], NewV W1.heap.size p.1) := ⟨fun p hp => by
                         rcases List.mem_append.1 hp with hp | hp
                         · exact HNw.out p hp
                         · rw [List.mem_singleton.1 hp]
                           intro A n c hm
                           exact Nat.le_trans HF6.out.size (Hnw.out A n c hm)⟩
                       clear f1 f2 f3 f4 hb6 hnew y0 y1 y2 y3 hB7)
                    | (at_builtin; refine wpList_append_one (B := W1.heap.size) rfl (.tmp 125) (.tmp 128) rfl u5 ps _ eb ⟨w6.heap.size, 0, none⟩ 1 rfl rfl HO7.out HE7.out HQ7.out HC7.out HL7.out HS7.out ?_; intro v' w7 hown hg7 hat; have HO8 := Kp.mk hown; have HA8 := Kp.mk (HA7.out.kept (hg7.block g HA7.out.lt (fun e => by have := HO7.out.base g e.symm; have := Hg1.out; omega))); have HF8 : Kp (Fr W1 w7 (fun k => k = g)) := ⟨HF7.out.grown hg7 (fun k hk => .inr (HO7.out.base k hk))⟩; clear hown hg7 hat))
                  go_roundw
                  case rel => exact ⟨nextAt ess ats eb, _, HA8, HO8, ⟨by rw [List.map_append]; exact HM6.out⟩, HF8, HN8⟩
                  case measure =>
                    have h1 := HO8.out.slLen
                    have h2 := HO6.out.slLen
                    have h3 := HL6.out
                    rw [List.length_append, List.length_singleton] at h1
                    omega
end Go.Proofs.Ytpgkpigpehehmaa.Bas
