import Derived.Test.YtgfkpddmjcgceaaLwA
set_option linter.unusedVariables false
set_option linter.unusedSimpArgs false
namespace Go.Proofs.Ytgfkpddmjcgceaa.Kx
open Go.RowKit Go.Maps Go.Proofs.YtgfkpddmjcgceaaW.PrintWords

structure Lw (w W : World) (A : Option Addr) (n c : Nat) (nx lg sq : Int) (rs : List Rn) (A5 : Option Addr) (nl : Nat) (l : List Int) : Prop where
  x : W.heap[w.heap.size]? = some (.cells #[.slice A n c, .int .i64 nx, .int .i64 lg, .int .u64 sq] 27 (0, 0))
  r : kRn.C W A n rs
  l : (Kd.int .i64).C W A5 nl l
  b : Below w.heap.size w W
theorem Lw.drewN {w W : World} {A A5 : Option Addr} {n c nl : Nat} {nx lg sq : Int} {rs : List Rn} {l : List Int} (h : Lw w W A n c nx lg sq rs A5 nl l) (q : Nat) : Lw w (W.drewN q) A n c nx lg sq rs A5 nl l :=
  ⟨h.x, Kd.C_drewN h.r _, Kd.C_drewN h.l _, pw_below_drewN h.b _⟩
theorem Lw.cells {w W : World} {A A5 : Option Addr} {n c nl : Nat} {nx lg sq : Int} {rs : List Rn} {l : List Int} (h : Lw w W A n c nx lg sq rs A5 nl l) : W.cell? ⟨w.heap.size, 0, none⟩ = some (.slice A n c) ∧ W.cell? ⟨w.heap.size, 1, none⟩ = some (.int .i64 nx) ∧ W.cell? ⟨w.heap.size, 2, none⟩ = some (.int .i64 lg) ∧ W.cell? ⟨w.heap.size, 3, none⟩ = some (.int .u64 sq) :=
  ⟨cells_top h.x 0 _ rfl, cells_top h.x 1 _ rfl, cells_top h.x 2 _ rfl, cells_top h.x 3 _ rfl⟩
theorem asc_getD {l : List Int} (h : Asc l) {i j : Nat} (hij : i < j) (hj : j < l.length) : l.getD i 0 < l.getD j 0 := by
  have := List.pairwise_iff_getElem.1 h i j (by omega) hj hij
  simpa [List.getD, hj, show i < l.length by omega] using this
def InP (rs : List Rn) (lg x : Int) (j : Nat) : Prop := (x = lg ∧ lg ≠ 0) ∨ ∃ q, q < j ∧ (rs.getD q zRn).file = x
def BoolIs (b : Bool) (P : Prop) : Prop := b = true ↔ P
theorem inP_all {rs : List Rn} {lg x : Int} {l : List Int} (h : LiveP rs lg l) (hx : x ∈ l) : InP rs lg x rs.length := by
  rcases (h.2 x).1 hx with h1 | h1
  · obtain ⟨r, hr, e⟩ := List.mem_map.1 h1
    obtain ⟨q, hq, e2⟩ := mem_getD (z := zRn) hr
    exact .inr ⟨q, hq, by rw [e2]; exact e⟩
  · exact .inl ⟨h1.2, h1.1⟩
theorem file_in {rs : List Rn} {lg : Int} {l : List Int} (h : LiveP rs lg l) {k : Nat} (hk : k < rs.length) : ∃ q, q < l.length ∧ l.getD q 0 = (rs.getD k zRn).file := by
  have h1 : (rs.getD k zRn).file ∈ rs.map Rn.file := List.mem_map.2 ⟨_, getD_mem hk, rfl⟩
  exact mem_getD ((h.2 _).2 (.inl h1))
set_option maxHeartbeats 8000000 in
set_option maxRecDepth 100000 in
theorem version_live_law {w : World} {A : Option Addr} {c n : Nat} {rs : List Rn} (nx lg sq : Int) (h : kRn.C w A n rs) :
    Calls Try.prog 7 #[.agg #[.slice A n c, .int .i64 nx, .int .i64 lg, .int .u64 sq]] w fun e w' => e = .returned (.bool true) ∧ Below w.heap.size w w' := by
  have Hn := Kp.mk h.1
  have hnm := h.2.1
  have H := Kp.mk h
  clear h
  go_enter Try.func7, Try.ntmps7
  go_wp2_with fail
  refine (alive_any _).mono ?_
  rintro e w1 ⟨rfl, hb1⟩
  have HX1 := Kp.mk (heap_newb hb1)
  have HB1 := Kp.mk ((alloc_below w (.cells #[.slice A n c, .int .i64 nx, .int .i64 lg, .int .u64 sq] 27)).trans (hb1.mono (by simp)))
  clear hb1
  have k0 : w1.cell? ⟨w.heap.size, 0, none⟩ = some (.slice A n c) := cells_top HX1.out 0 _ rfl
  have k1 : w1.cell? ⟨w.heap.size, 1, none⟩ = some (.int .i64 nx) := cells_top HX1.out 1 _ rfl
  have k2 : w1.cell? ⟨w.heap.size, 2, none⟩ = some (.int .i64 lg) := cells_top HX1.out 2 _ rfl
  have k3 : w1.cell? ⟨w.heap.size, 3, none⟩ = some (.int .u64 sq) := cells_top HX1.out 3 _ rfl
  go_wp2_with fail
  refine (big_version nx lg sq (Kd.C_below H.out HB1.out)).mono ?_
  rintro e w2 ⟨b, rfl, hb, hb2⟩
  cases b with
  | true =>
    have HB2 := Kp.mk (HB1.out.trans (hb2.mono HB1.out.size))
    clear hb hb2
    go_wp2_with fail
    go_ret
    exact ⟨rfl, HB2.out⟩
  | false =>
    have HS := Kp.mk (hb rfl)
    have HX2 := Kp.mk ((hb2.block _ (lt_of_block HX1.out)).trans HX1.out)
    have HB2 := Kp.mk (HB1.out.trans (hb2.mono HB1.out.size))
    clear hb hb2 k0 k1 k2 k3 HX1 HB1
    have k0 : w2.cell? ⟨w.heap.size, 0, none⟩ = some (.slice A n c) := cells_top HX2.out 0 _ rfl
    have k1 : w2.cell? ⟨w.heap.size, 1, none⟩ = some (.int .i64 nx) := cells_top HX2.out 1 _ rfl
    have k2 : w2.cell? ⟨w.heap.size, 2, none⟩ = some (.int .i64 lg) := cells_top HX2.out 2 _ rfl
    have k3 : w2.cell? ⟨w.heap.size, 3, none⟩ = some (.int .u64 sq) := cells_top HX2.out 3 _ rfl
    have hlv := version_live (w := w2) (c := c) nx lg sq (show kRn.C w2 A rs.length rs by rw [Hn.out]; exact Kd.C_below H.out HB2.out) (by have := HS.out.2.1; omega)
    rw [Hn.out] at hlv
    have HLv := Kp.mk hlv
    clear hlv
    go_wp2_with fail
    refine HLv.out.mono ?_
    clear HLv
    rintro e w3 ⟨v5, l, rfl, hR, hP, hb3⟩
    have HX3 := Kp.mk ((hb3.block _ (lt_of_block HX2.out)).trans HX2.out)
    have HB3 := Kp.mk (HB2.out.trans (hb3.mono HB2.out.size))
    obtain ⟨A5, c5, rfl, hl5, hC5⟩ := Kd.R_reads hR
    have HP := Kp.mk hP
    have HW := Kp.mk (show Lw w w3 A n c nx lg sq rs A5 l.length l from ⟨HX3.out, Kd.C_below H.out HB3.out, hC5, HB3.out⟩)
    obtain ⟨nl, hnl⟩ : ∃ nl, nl = l.length := ⟨_, rfl⟩
    rw [← hnl] at HW ⊢
    have Hnl := Kp.mk hnl
    have hnm2 := HW.out.l.2.1
    clear hR hP hb3 hl5 hC5 hnl k0 k1 k2 k3 HX2 HB2 HX3 HB3 H
    go_wp2_with fail
    go_loopw [6] (fun i wr => ∃ k : Nat, (k < nl ∨ k = 0) ∧ i = .int .i64 ((k : Int) + 1) ∧ Kp (Lw w wr A n c nx lg sq rs A5 nl l)) (fun i _ => nl - (intOf i).toNat)
    case atStart => exact ⟨0, .inr rfl, rfl, HW⟩
    case round =>
      clear HW
      obtain ⟨k, hk, rfl, HW⟩ := hrel
      by_cases hlt : k + 1 < nl
      · have hi1 : (k : Int) + 1 < (nl : Int) := by omega
        obtain ⟨ad, e5, c1⟩ := ints_at HW.out.l k (by omega)
        obtain ⟨_, e6, c2⟩ := ints_at HW.out.l (k + 1) hlt
        subst e5
        cases e6
        have hasc := asc_getD HP.out.1 (i := k) (j := k + 1) (by omega) (by have := Hnl.out; omega)
        obtain ⟨x, hx⟩ : ∃ x, l.getD k 0 = x := ⟨_, rfl⟩
        obtain ⟨y, hy⟩ : ∃ y, l.getD (k + 1) 0 = y := ⟨_, rfl⟩
        rw [hx] at c1 hasc
        rw [hy] at c2 hasc
        clear hx hy
        have c3 : wr.cell? ⟨ad.block, ad.off + (k + 1), none⟩ = some (.int .i64 y) := c2
        have hd : decide (y ≤ x) = false := decide_eq_false (by omega)
        have t1 : ((k : Int) + 1).toNat = k + 1 := by omega
        have t2 : IntKind.i64.wrap ((k : Int) + 1 - 1) = (k : Int) := by rw [IntWalk.i64_in _ ⟨by omega, by omega⟩]; omega
        have t3 : (k : Int) < (nl : Int) := by omega
        have t4 : (0 : Int) ≤ (k : Int) + 1 := by omega
        have t5 : ¬ (nl : Int) ≤ (k : Int) + 1 := by omega
        have t6 : IntKind.i64.wrap ((k : Int) + 1) = (k : Int) + 1 := IntWalk.i64_in _ ⟨by omega, by omega⟩
        have t7 : (k : Int) + 1 - 1 = (k : Int) := by omega
        go_wp2_with fail
        go_quiet (fail)
        go_wp2_with fail
        go_roundw
        case rel => exact ⟨k + 1, .inl (by omega), by go_num, ⟨HW.out.drewN _⟩⟩
        case measure => simp [intOf]; omega
      · have hi1 : (nl : Int) ≤ (k : Int) + 1 := by omega
        clear hk
        go_wp2_with fail
        go_loopw [7, 8] (fun m i wr => ∃ k : Nat, k ≤ nl ∧ m = .int .i64 k ∧ i = .int .i64 k ∧ Kp (Lw w wr A n c nx lg sq rs A5 nl l)) (fun _ i _ => nl - (intOf i).toNat)
        case atStart => exact ⟨0, Nat.zero_le _, rfl, rfl, HW⟩
        case round =>
          clear HW
          obtain ⟨k2, hk2, rfl, rfl, HW⟩ := hrel
          by_cases hlt2 : k2 < nl
          · have hi2 : (k2 : Int) < (nl : Int) := by omega
            obtain ⟨ad, e5, c1⟩ := ints_at HW.out.l k2 hlt2
            subst e5
            have Hx : Kp (InP rs lg (l.getD k2 0) rs.length) := ⟨inP_all HP.out (getD_mem (by have := Hnl.out; omega))⟩
            obtain ⟨x, hx⟩ : ∃ x, l.getD k2 0 = x := ⟨_, rfl⟩
            rw [hx] at c1 Hx
            have HGx := Kp.mk hx
            clear hx
            have d2 := HW.out.cells.2.2.1
            have HI : ∀ bb : Bool, (bb = true ↔ x = lg ∧ lg ≠ 0) → (bb = true ↔ InP rs lg x 0) := fun bb hb => hb.trans ⟨fun h => .inl h, fun h => h.elim id (fun ⟨q, hq, _⟩ => absurd hq (by omega))⟩
            have HI2 := Kp.mk HI
            clear HI
            by_cases hxl : x = lg
            · have hb0 : (x == lg) = true := by simpa using hxl
              have Hxl := Kp.mk hxl
              clear hxl
              by_cases hl0 : lg = 0
              · have hb1 : (lg != 0) = false := by simpa using hl0
                have Hl0 := Kp.mk hl0
                clear hl0
                go_wp2_with fail
                go_quiet (fail)
                go_wp2_with fail
                have HI3 : Kp (BoolIs false (InP rs lg x 0)) := ⟨HI2.out false ⟨(fun h => by cases h), fun h => absurd Hl0.out h.2⟩⟩
                clear HI2
                go_loopw [9, 10] (fun z i wr => ∃ (j : Nat) (bb : Bool), j ≤ n ∧ z = .bool bb ∧ i = .int .i64 j ∧ Kp (BoolIs bb (InP rs lg x j)) ∧ Kp (Lw w wr A n c nx lg sq rs (some ad) nl l)) (fun _ i _ => n - (intOf i).toNat)
                case atStart => exact ⟨0, false, Nat.zero_le _, rfl, rfl, HI3, ⟨HW.out.drewN _⟩⟩
                case round =>
                  clear HW HI3 d2 c1
                  obtain ⟨j, bb, hj, rfl, rfl, HI3, HW⟩ := hrel
                  have k0 := HW.out.cells.1
                  obtain ⟨_, e6, c1⟩ := ints_at HW.out.l k2 hlt2
                  cases e6
                  rw [HGx.out] at c1
                  by_cases hlt3 : j < n
                  · have hi3 : (j : Int) < (n : Int) := by omega
                    obtain ⟨ad9, A3, c3, A4, c4, e7, s0, _⟩ := rn_at HW.out.r j hlt3
                    subst e7
                    obtain ⟨f, hf⟩ : ∃ f, (rs.getD j zRn).file = f := ⟨_, rfl⟩
                    rw [hf] at s0
                    have Hf := Kp.mk hf
                    clear hf
                    have HN1 : Kp (InP rs lg x j → InP rs lg x (j + 1)) := ⟨fun h => h.elim .inl (fun ⟨q, hq, e⟩ => .inr ⟨q, by omega, e⟩)⟩
                    have HN2 : Kp (f = x → InP rs lg x (j + 1)) := ⟨fun h => .inr ⟨j, by omega, by rw [Hf.out]; exact h⟩⟩
                    have HN3 : Kp (InP rs lg x (j + 1) → InP rs lg x j ∨ f = x) := ⟨fun h => h.elim (fun h => .inl (.inl h)) (fun ⟨q, hq, e⟩ => by
                        by_cases hqj : q = j
                        · subst hqj; exact .inr (by rw [← Hf.out]; exact e)
                        · exact .inl (.inr ⟨q, by omega, e⟩))⟩
                    cases bb with
                    | true =>
                      have HJ : Kp (BoolIs true (InP rs lg x (j + 1))) := ⟨⟨fun _ => HN1.out (HI3.out.1 rfl), fun _ => rfl⟩⟩
                      go_wp2_with fail
                      go_quiet (fail)
                      go_wp2_with fail
                      go_roundw
                      case rel => exact ⟨j + 1, true, by omega, rfl, by go_num, HJ, ⟨HW.out.drewN _⟩⟩
                      case measure => simp [intOf]; omega
                    | false =>
                      by_cases hfx : f = x
                      · have HJ : Kp (BoolIs true (InP rs lg x (j + 1))) := ⟨⟨fun _ => HN2.out hfx, fun _ => rfl⟩⟩
                        have hfe : (f == x) = true := by simpa using hfx
                        clear hfx
                        go_wp2_with fail
                        go_quiet (fail)
                        go_wp2_with fail
                        go_roundw
                        case rel => exact ⟨j + 1, true, by omega, rfl, by go_num, HJ, ⟨HW.out.drewN _⟩⟩
                        case measure => simp [intOf]; omega
                      · have HJ : Kp (BoolIs false (InP rs lg x (j + 1))) := ⟨⟨(fun h => by cases h), fun h => (HN3.out h).elim (fun h2 => HI3.out.2 h2) (fun h2 => absurd h2 hfx)⟩⟩
                        have hfe : (f == x) = false := by simpa using hfx
                        clear hfx
                        go_wp2_with fail
                        go_quiet (fail)
                        go_wp2_with fail
                        go_roundw
                        case rel => exact ⟨j + 1, false, by omega, rfl, by go_num, HJ, ⟨HW.out.drewN _⟩⟩
                        case measure => simp [intOf]; omega
                  · obtain rfl : j = n := by omega
                    have hbb : bb = true := HI3.out.2 (by have := Hx.out; rwa [Hn.out] at this)
                    subst hbb
                    go_wp2_with fail
                    go_roundw
                    case rel => exact ⟨k2 + 1, by omega, by go_num, by go_num, HW⟩
                    case measure => simp [intOf]; omega
              · have hb1 : (lg != 0) = true := by simpa using hl0
                have Hl0 := Kp.mk hl0
                clear hl0
                go_wp2_with fail
                go_quiet (fail)
                go_wp2_with fail
                have HI3 : Kp (BoolIs true (InP rs lg x 0)) := ⟨HI2.out true ⟨fun _ => ⟨Hxl.out, Hl0.out⟩, fun _ => rfl⟩⟩
                clear HI2
                go_loopw [9, 10] (fun z i wr => ∃ (j : Nat) (bb : Bool), j ≤ n ∧ z = .bool bb ∧ i = .int .i64 j ∧ Kp (BoolIs bb (InP rs lg x j)) ∧ Kp (Lw w wr A n c nx lg sq rs (some ad) nl l)) (fun _ i _ => n - (intOf i).toNat)
                case atStart => exact ⟨0, true, Nat.zero_le _, rfl, rfl, HI3, ⟨HW.out.drewN _⟩⟩
                case round =>
                  clear HW HI3 d2 c1
                  obtain ⟨j, bb, hj, rfl, rfl, HI3, HW⟩ := hrel
                  have k0 := HW.out.cells.1
                  obtain ⟨_, e6, c1⟩ := ints_at HW.out.l k2 hlt2
                  cases e6
                  rw [HGx.out] at c1
                  by_cases hlt3 : j < n
                  · have hi3 : (j : Int) < (n : Int) := by omega
                    obtain ⟨ad9, A3, c3, A4, c4, e7, s0, _⟩ := rn_at HW.out.r j hlt3
                    subst e7
                    obtain ⟨f, hf⟩ : ∃ f, (rs.getD j zRn).file = f := ⟨_, rfl⟩
                    rw [hf] at s0
                    have Hf := Kp.mk hf
                    clear hf
                    have HN1 : Kp (InP rs lg x j → InP rs lg x (j + 1)) := ⟨fun h => h.elim .inl (fun ⟨q, hq, e⟩ => .inr ⟨q, by omega, e⟩)⟩
                    have HN2 : Kp (f = x → InP rs lg x (j + 1)) := ⟨fun h => .inr ⟨j, by omega, by rw [Hf.out]; exact h⟩⟩
                    have HN3 : Kp (InP rs lg x (j + 1) → InP rs lg x j ∨ f = x) := ⟨fun h => h.elim (fun h => .inl (.inl h)) (fun ⟨q, hq, e⟩ => by
                        by_cases hqj : q = j
                        · subst hqj; exact .inr (by rw [← Hf.out]; exact e)
                        · exact .inl (.inr ⟨q, by omega, e⟩))⟩
                    cases bb with
                    | true =>
                      have HJ : Kp (BoolIs true (InP rs lg x (j + 1))) := ⟨⟨fun _ => HN1.out (HI3.out.1 rfl), fun _ => rfl⟩⟩
                      go_wp2_with fail
                      go_quiet (fail)
                      go_wp2_with fail
                      go_roundw
                      case rel => exact ⟨j + 1, true, by omega, rfl, by go_num, HJ, ⟨HW.out.drewN _⟩⟩
                      case measure => simp [intOf]; omega
                    | false =>
                      by_cases hfx : f = x
                      · have HJ : Kp (BoolIs true (InP rs lg x (j + 1))) := ⟨⟨fun _ => HN2.out hfx, fun _ => rfl⟩⟩
                        have hfe : (f == x) = true := by simpa using hfx
                        clear hfx
                        go_wp2_with fail
                        go_quiet (fail)
                        go_wp2_with fail
                        go_roundw
                        case rel => exact ⟨j + 1, true, by omega, rfl, by go_num, HJ, ⟨HW.out.drewN _⟩⟩
                        case measure => simp [intOf]; omega
                      · have HJ : Kp (BoolIs false (InP rs lg x (j + 1))) := ⟨⟨(fun h => by cases h), fun h => (HN3.out h).elim (fun h2 => HI3.out.2 h2) (fun h2 => absurd h2 hfx)⟩⟩
                        have hfe : (f == x) = false := by simpa using hfx
                        clear hfx
                        go_wp2_with fail
                        go_quiet (fail)
                        go_wp2_with fail
                        go_roundw
                        case rel => exact ⟨j + 1, false, by omega, rfl, by go_num, HJ, ⟨HW.out.drewN _⟩⟩
                        case measure => simp [intOf]; omega
                  · obtain rfl : j = n := by omega
                    have hbb : bb = true := HI3.out.2 (by have := Hx.out; rwa [Hn.out] at this)
                    subst hbb
                    go_wp2_with fail
                    go_roundw
                    case rel => exact ⟨k2 + 1, by omega, by go_num, by go_num, HW⟩
                    case measure => simp [intOf]; omega
            · have hb1 : (x == lg) = false := by simpa using hxl
              have Hxl := Kp.mk hxl
              clear hxl
              go_wp2_with fail
              go_quiet (fail)
              go_wp2_with fail
              have HI3 : Kp (BoolIs false (InP rs lg x 0)) := ⟨HI2.out false ⟨(fun h => by cases h), fun h => absurd h.1 Hxl.out⟩⟩
              clear HI2
              go_loopw [9, 10] (fun z i wr => ∃ (j : Nat) (bb : Bool), j ≤ n ∧ z = .bool bb ∧ i = .int .i64 j ∧ Kp (BoolIs bb (InP rs lg x j)) ∧ Kp (Lw w wr A n c nx lg sq rs (some ad) nl l)) (fun _ i _ => n - (intOf i).toNat)
              case atStart => exact ⟨0, false, Nat.zero_le _, rfl, rfl, HI3, ⟨HW.out.drewN _⟩⟩
              case round =>
                clear HW HI3 d2 c1
                obtain ⟨j, bb, hj, rfl, rfl, HI3, HW⟩ := hrel
                have k0 := HW.out.cells.1
                obtain ⟨_, e6, c1⟩ := ints_at HW.out.l k2 hlt2
                cases e6
                rw [HGx.out] at c1
                by_cases hlt3 : j < n
                · have hi3 : (j : Int) < (n : Int) := by omega
                  obtain ⟨ad9, A3, c3, A4, c4, e7, s0, _⟩ := rn_at HW.out.r j hlt3
                  subst e7
                  obtain ⟨f, hf⟩ : ∃ f, (rs.getD j zRn).file = f := ⟨_, rfl⟩
                  rw [hf] at s0
                  have Hf := Kp.mk hf
                  clear hf
                  have HN1 : Kp (InP rs lg x j → InP rs lg x (j + 1)) := ⟨fun h => h.elim .inl (fun ⟨q, hq, e⟩ => .inr ⟨q, by omega, e⟩)⟩
                  have HN2 : Kp (f = x → InP rs lg x (j + 1)) := ⟨fun h => .inr ⟨j, by omega, by rw [Hf.out]; exact h⟩⟩
                  have HN3 : Kp (InP rs lg x (j + 1) → InP rs lg x j ∨ f = x) := ⟨fun h => h.elim (fun h => .inl (.inl h)) (fun ⟨q, hq, e⟩ => by
                      by_cases hqj : q = j
                      · subst hqj; exact .inr (by rw [← Hf.out]; exact e)
                      · exact .inl (.inr ⟨q, by omega, e⟩))⟩
                  cases bb with
                  | true =>
                    have HJ : Kp (BoolIs true (InP rs lg x (j + 1))) := ⟨⟨fun _ => HN1.out (HI3.out.1 rfl), fun _ => rfl⟩⟩
                    go_wp2_with fail
                    go_quiet (fail)
                    go_wp2_with fail
                    go_roundw
                    case rel => exact ⟨j + 1, true, by omega, rfl, by go_num, HJ, ⟨HW.out.drewN _⟩⟩
                    case measure => simp [intOf]; omega
                  | false =>
                    by_cases hfx : f = x
                    · have HJ : Kp (BoolIs true (InP rs lg x (j + 1))) := ⟨⟨fun _ => HN2.out hfx, fun _ => rfl⟩⟩
                      have hfe : (f == x) = true := by simpa using hfx
                      clear hfx
                      go_wp2_with fail
                      go_quiet (fail)
                      go_wp2_with fail
                      go_roundw
                      case rel => exact ⟨j + 1, true, by omega, rfl, by go_num, HJ, ⟨HW.out.drewN _⟩⟩
                      case measure => simp [intOf]; omega
                    · have HJ : Kp (BoolIs false (InP rs lg x (j + 1))) := ⟨⟨(fun h => by cases h), fun h => (HN3.out h).elim (fun h2 => HI3.out.2 h2) (fun h2 => absurd h2 hfx)⟩⟩
                      have hfe : (f == x) = false := by simpa using hfx
                      clear hfx
                      go_wp2_with fail
                      go_quiet (fail)
                      go_wp2_with fail
                      go_roundw
                      case rel => exact ⟨j + 1, false, by omega, rfl, by go_num, HJ, ⟨HW.out.drewN _⟩⟩
                      case measure => simp [intOf]; omega
                · obtain rfl : j = n := by omega
                  have hbb : bb = true := HI3.out.2 (by have := Hx.out; rwa [Hn.out] at this)
                  subst hbb
                  go_wp2_with fail
                  go_roundw
                  case rel => exact ⟨k2 + 1, by omega, by go_num, by go_num, HW⟩
                  case measure => simp [intOf]; omega
          · obtain rfl : k2 = nl := by omega
            clear hlt2 hk2 hi1 hlt
            go_wp2_with fail
            go_loopw [11] (fun i wr => ∃ k4 : Nat, k4 ≤ n ∧ i = .int .i64 k4 ∧ Kp (Lw w wr A n c nx lg sq rs A5 k2 l)) (fun i _ => n - (intOf i).toNat)
            case atStart => exact ⟨0, Nat.zero_le _, rfl, HW⟩
            case round =>
              clear HW
              obtain ⟨k4, hk4, rfl, HW⟩ := hrel
              have b0 := HW.out.cells.1
              have b2 := HW.out.cells.2.2.1
              by_cases hlt4 : k4 < n
              · have hi4 : (k4 : Int) < (n : Int) := by omega
                obtain ⟨ad9, A3, c3, A4, c4, e7, s0, _⟩ := rn_at HW.out.r k4 hlt4
                subst e7
                have HE : Kp (∃ q, q < l.length ∧ l.getD q 0 = (rs.getD k4 zRn).file) := ⟨file_in HP.out (by have := Hn.out; omega)⟩
                obtain ⟨f, hf⟩ : ∃ f, (rs.getD k4 zRn).file = f := ⟨_, rfl⟩
                rw [hf] at s0 HE
                have Hf := Kp.mk hf
                clear hf
                go_wp2_with fail
                go_loopw [12, 13] (fun z i wr => ∃ (j : Nat) (bb : Bool), j ≤ k2 ∧ z = .bool bb ∧ i = .int .i64 j ∧ Kp (BoolIs bb (∃ q, q < j ∧ l.getD q 0 = f)) ∧ Kp (Lw w wr (some ad9) n c nx lg sq rs A5 k2 l)) (fun _ i _ => k2 - (intOf i).toNat)
                case atStart => exact ⟨0, false, Nat.zero_le _, rfl, rfl, ⟨⟨(fun h => by cases h), fun ⟨q, hq, _⟩ => absurd hq (by omega)⟩⟩, HW⟩
                case round =>
                  clear HW s0 b0 b2
                  obtain ⟨j, bb, hj, rfl, rfl, HI3, HW⟩ := hrel
                  have b0 := HW.out.cells.1
                  obtain ⟨_, A3, c3, A4, c4, e7, s0, _⟩ := rn_at HW.out.r k4 hlt4
                  cases e7
                  rw [Hf.out] at s0
                  by_cases hlt5 : j < k2
                  · have hi5 : (j : Int) < (k2 : Int) := by omega
                    obtain ⟨ad, e8, c1⟩ := ints_at HW.out.l j hlt5
                    subst e8
                    obtain ⟨y, hy⟩ : ∃ y, l.getD j 0 = y := ⟨_, rfl⟩
                    rw [hy] at c1
                    have Hy := Kp.mk hy
                    clear hy
                    have HN1 : Kp ((∃ q, q < j ∧ l.getD q 0 = f) → ∃ q, q < j + 1 ∧ l.getD q 0 = f) := ⟨fun ⟨q, hq, e⟩ => ⟨q, by omega, e⟩⟩
                    have HN2 : Kp (y = f → ∃ q, q < j + 1 ∧ l.getD q 0 = f) := ⟨fun h => ⟨j, by omega, by rw [Hy.out]; exact h⟩⟩
                    have HN3 : Kp ((∃ q, q < j + 1 ∧ l.getD q 0 = f) → (∃ q, q < j ∧ l.getD q 0 = f) ∨ y = f) := ⟨fun ⟨q, hq, e⟩ => by
                        by_cases hqj : q = j
                        · subst hqj; exact .inr (by rw [← Hy.out]; exact e)
                        · exact .inl ⟨q, by omega, e⟩⟩
                    cases bb with
                    | true =>
                      have HJ : Kp (BoolIs true (∃ q, q < j + 1 ∧ l.getD q 0 = f)) := ⟨⟨fun _ => HN1.out (HI3.out.1 rfl), fun _ => rfl⟩⟩
                      go_wp2_with fail
                      go_quiet (fail)
                      go_wp2_with fail
                      go_roundw
                      case rel => exact ⟨j + 1, true, by omega, rfl, by go_num, HJ, ⟨HW.out.drewN _⟩⟩
                      case measure => simp [intOf]; omega
                    | false =>
                      by_cases hfx : y = f
                      · have HJ : Kp (BoolIs true (∃ q, q < j + 1 ∧ l.getD q 0 = f)) := ⟨⟨fun _ => HN2.out hfx, fun _ => rfl⟩⟩
                        have hfe : (y == f) = true := by simpa using hfx
                        clear hfx
                        go_wp2_with fail
                        go_quiet (fail)
                        go_wp2_with fail
                        go_roundw
                        case rel => exact ⟨j + 1, true, by omega, rfl, by go_num, HJ, ⟨HW.out.drewN _⟩⟩
                        case measure => simp [intOf]; omega
                      · have HJ : Kp (BoolIs false (∃ q, q < j + 1 ∧ l.getD q 0 = f)) := ⟨⟨(fun h => by cases h), fun h => (HN3.out h).elim (fun h2 => HI3.out.2 h2) (fun h2 => absurd h2 hfx)⟩⟩
                        have hfe : (y == f) = false := by simpa using hfx
                        clear hfx
                        go_wp2_with fail
                        go_quiet (fail)
                        go_wp2_with fail
                        go_roundw
                        case rel => exact ⟨j + 1, false, by omega, rfl, by go_num, HJ, ⟨HW.out.drewN _⟩⟩
                        case measure => simp [intOf]; omega
                  · obtain rfl : j = k2 := by omega
                    have hbb : bb = true := HI3.out.2 (by have := HE.out; rwa [← Hnl.out] at this)
                    subst hbb
                    go_wp2_with fail
                    go_roundw
                    case rel => exact ⟨k4 + 1, by omega, by go_num, HW⟩
                    case measure => simp [intOf]; omega
              · by_cases hl0 : lg = 0
                · have hb1 : (lg == 0) = true := by simpa using hl0
                  clear hl0
                  go_wp2_with fail
                  go_ret
                  exact ⟨rfl, HW.out.b⟩
                · have hb1 : (lg == 0) = false := by simpa using hl0
                  clear hl0
                  have b1 := HW.out.cells.2.1
                  have b3 := HW.out.cells.2.2.2
                  have hlv := ref_live (w := wr) (c := c) nx lg sq (show kRn.C wr A rs.length rs by rw [Hn.out]; exact HW.out.r) (by have := HS.out.2.1; omega)
                  rw [Hn.out] at hlv
                  have HLv := Kp.mk hlv
                  clear hlv
                  go_wp2_with fail
                  refine HLv.out.mono ?_
                  rintro e w6 ⟨v6, l6, rfl, hR6, hP6, hb6⟩
                  have He : Kp (l = l6) := ⟨asc_ext HP.out.1 hP6.1 (fun x => (HP.out.2 x).trans (hP6.2 x).symm)⟩
                  obtain ⟨A6, c6, rfl, _, hC6⟩ := Kd.R_reads hR6
                  have HC6 := Kp.mk hC6
                  have HL6 := Kp.mk (Kd.C_below HW.out.l hb6)
                  have HB6 := Kp.mk (HW.out.b.trans (hb6.mono HW.out.b.size))
                  clear hR6 hP6 hb6 hC6 HLv
                  go_wp2_with fail
                  refine (same_ints HL6.out HC6.out).mono ?_
                  rintro e w7 ⟨b, rfl, hb, hb7⟩
                  have hbt : b = true := hb.2 He.out
                  subst hbt
                  have HB7 := Kp.mk (HB6.out.trans (hb7.mono HB6.out.size))
                  clear hb hb7
                  go_wp2_with fail
                  go_ret
                  exact ⟨rfl, HB7.out⟩
end Go.Proofs.Ytgfkpddmjcgceaa.Kx
