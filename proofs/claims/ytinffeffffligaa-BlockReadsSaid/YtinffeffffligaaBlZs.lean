import Derived.Test.YtinffeffffligaaBlV
import Derived.Test.YtinffeffffligaaBlD
import Derived.Deep.RegionWith
set_option linter.unusedVariables false
set_option linter.unusedSimpArgs false
namespace Go.Proofs.Ytinffeffffligaa.Bas
open Go.RowKit Go.Maps

/-! ### Whatever entries came in: the reference's Build -/
/-- Four cells of an entry; the entry itself, where its bytes are not too many. -/
structure EnW (w : World) (b off : Nat) : Prop where
  out : ∃ A0 n0 c0 s k A1 n1 c1, 0 ≤ s ∧ (∀ j u, [Value.slice A0 n0 c0, .int .u64 s, .int .i64 k, .slice A1 n1 c1][j]? = some u → w.cell? ⟨b, off + j, none⟩ = some u) ∧ (n0 ≤ 5000 → n1 ≤ 5000 → ∃ e : En, EnC w #[.slice A0 n0 c0, .int .u64 s, .int .i64 k, .slice A1 n1 c1] e)
structure EsV (w : World) (A : Option Addr) (n c : Nat) : Prop where
  max : n ≤ 9223372036854775807
  nil : A = none → n = 0 ∧ c = 0
  cell : 0 < n → ∃ b off, A = some ⟨b, off, none⟩ ∧ ∀ i, i < n → EnW w b (off + i * 4)
theorem EnW.below {w W : World} {b off : Nat} (h : EnW w b off) (hb : Below w.heap.size w W) : EnW W b off := by
  obtain ⟨A0, n0, c0, s, k, A1, n1, c1, h0, hc, ho⟩ := h.out
  exact ⟨A0, n0, c0, s, k, A1, n1, c1, h0, fun j u hu => cell_kept hb (hc j u hu), fun q0 q1 => by
    obtain ⟨e, he⟩ := ho q0 q1
    exact ⟨e, he.below hb⟩⟩
theorem EsV.below {w W : World} {A : Option Addr} {n c : Nat} (h : EsV w A n c) (hb : Below w.heap.size w W) : EsV W A n c :=
  ⟨h.max, h.nil, fun hn => by
    obtain ⟨b, off, e, hc⟩ := h.cell hn
    exact ⟨b, off, e, fun i hi => (hc i hi).below hb⟩⟩
/-- A bool; true only where p is. -/
def BoolP (p : Prop) (w : World) (e : Ending) (w' : World) : Prop := ∃ b, e = .returned (.bool b) ∧ (b = true → p) ∧ Below w.heap.size w w'
set_option maxHeartbeats 2000000 in
set_option maxRecDepth 100000 in
theorem key_weak (w : World) (A : Option Addr) (n c : Nat) (s k : Int) : Calls Try.prog 62 #[.agg #[.slice A n c, .int .u64 s, .int .i64 k]] w (BoolP (n ≤ 256) w) := by
  have hc : (n < 1) ∨ (1 ≤ n ∧ 256 < n) ∨ (1 ≤ n ∧ n ≤ 256 ∧ 72057594037927935 < s) ∨ (1 ≤ n ∧ n ≤ 256 ∧ s ≤ 72057594037927935 ∧ (k == 0) = true) ∨
      (1 ≤ n ∧ n ≤ 256 ∧ s ≤ 72057594037927935 ∧ (k == 0) = false ∧ (k == 1) = true) ∨ (1 ≤ n ∧ n ≤ 256 ∧ s ≤ 72057594037927935 ∧ (k == 0) = false ∧ (k == 1) = false) := by
    simp only [beq_iff_eq, beq_eq_false_iff_ne]
    omega
  rcases hc with a1 | ⟨a1, a2⟩ | ⟨a1, a2, a3⟩ | ⟨a1, a2, a3, a4⟩ | ⟨a1, a2, a3, a4, a5⟩ | ⟨a1, a2, a3, a4, a5⟩
  all_goals
    go_enter Try.func62, Try.ntmps62
    go_wp2_with fail
    go_ret
    exact ⟨_, rfl, (by intro h; first | omega | cases h), alloc_below _ _⟩
set_option maxHeartbeats 2000000 in
set_option maxRecDepth 100000 in
theorem right_weak (w : World) (A0 : Option Addr) (n0 c0 : Nat) (s k : Int) (A1 : Option Addr) (n1 c1 : Nat) : Calls Try.prog 44 #[.agg #[.slice A0 n0 c0, .int .u64 s, .int .i64 k, .slice A1 n1 c1]] w (BoolP (n0 ≤ 5000 ∧ n1 ≤ 5000) w) := by
  have g0 := heap_alloc_new w (.cells #[.slice A0 n0 c0, .int .u64 s, .int .i64 k, .slice A1 n1 c1] 48)
  have hb0 := alloc_below w (.cells #[.slice A0 n0 c0, .int .u64 s, .int .i64 k, .slice A1 n1 c1] 48)
  have HC := Kp.mk (key_weak (w.alloc (.cells #[.slice A0 n0 c0, .int .u64 s, .int .i64 k, .slice A1 n1 c1] 48)) A0 n0 c0 s k)
  have HB0 := Kp.mk hb0
  have G0 := Kp.mk g0
  clear g0 hb0
  go_enter Try.func44, Try.ntmps44
  go_wp2_with fail
  refine HC.out.mono ?_
  rintro e w1 ⟨b, rfl, hbn, hb1⟩
  have g1 := (hb1.block _ (lt_of_block G0.out)).trans G0.out
  have c2 := cells_top g1 2 (.int .i64 k) rfl
  have c3 := cells_top g1 3 (.slice A1 n1 c1) rfl
  have HB1 := Kp.mk (HB0.out.trans (hb1.mono HB0.out.size))
  clear hb1 g1
  cases b
  · clear hbn
    go_wp2_with fail
    go_ret
    exact ⟨_, rfl, (fun h => by cases h), HB1.out⟩
  · have hn0 := hbn rfl
    have hc : (4096 < n1) ∨ (n1 ≤ 4096 ∧ (k == 1) = true) ∨ (n1 ≤ 4096 ∧ (k == 1) = false) := by
      simp only [beq_iff_eq, beq_eq_false_iff_ne]
      omega
    clear hbn
    rcases hc with a1 | ⟨a1, a2⟩ | ⟨a1, a2⟩
    all_goals
      go_wp2_with fail
      go_ret
      exact ⟨_, rfl, (by intro h; first | omega | cases h), HB1.out⟩
set_option maxHeartbeats 2000000 in
set_option maxRecDepth 100000 in
theorem rising_weak {w : World} {A : Option Addr} {n c : Nat} (h : EsV w A n c) (hg : ∀ b off, A = some ⟨b, off, none⟩ → ∀ i, i < n → ∃ A0 n0 c0 A1 n1 c1, ∃ e : En, EnC w #[.slice A0 n0 c0, .int .u64 e.k.seq, .int .i64 e.k.kind, .slice A1 n1 c1] e ∧ ∀ j u, [Value.slice A0 n0 c0, .int .u64 e.k.seq, .int .i64 e.k.kind, .slice A1 n1 c1][j]? = some u → w.cell? ⟨b, off + i * 4 + j, none⟩ = some u) :
    Calls Try.prog 45 #[.slice A n c] w (BoolP True w) := by
  have hm := h.max
  have H := Kp.mk h
  have HG := Kp.mk hg
  clear h hg
  go_enter Try.func45, Try.ntmps45
  go_wp2_with fail
  go_loopw [3] (fun i wr => ∃ k : Nat, k ≤ n + 1 ∧ 1 ≤ k ∧ i = .int .i64 k ∧ (k ≤ n ∨ n = 0) ∧ Kp (Below w.heap.size w wr)) (fun i _ => n + 1 - (intOf i).toNat)
  case atStart => exact ⟨1, by omega, by omega, rfl, by omega, ⟨Below.refl _ _⟩⟩
  case round =>
    obtain ⟨k, hk, hk1, rfl, hkn, HB⟩ := hrel
    by_cases hlt : k < n
    · obtain ⟨q, hq⟩ : ∃ q, k = q + 1 := ⟨k - 1, by omega⟩
      have hw : IntKind.i64.wrap ((k : Int) - 1) = (q : Int) := (IntWalk.i64_in _ (by omega)).trans (by omega)
      have hqn : q < n := by omega
      have hqn' : ¬ n ≤ q := by omega
      have hkn' : ¬ n ≤ k := by omega
      obtain ⟨b, off, rfl, _⟩ := H.out.cell (by omega)
      obtain ⟨A0, n0, c0, A0', n0', c0', e, hu, hu'⟩ := HG.out b off rfl q hqn
      obtain ⟨A1, n1, c1, A1', n1', c1', f, hv, hv'⟩ := HG.out b off rfl k hlt
      have x0 := cell_kept HB.out (hu' 0 _ rfl)
      rw [Nat.add_zero] at x0
      have x1 := cell_kept HB.out (hu' 1 _ rfl)
      have x2 := cell_kept HB.out (hu' 2 _ rfl)
      have y0 := cell_kept HB.out (hv' 0 _ rfl)
      rw [Nat.add_zero] at y0
      have y1 := cell_kept HB.out (hv' 1 _ rfl)
      have y2 := cell_kept HB.out (hv' 2 _ rfl)
      have hu2 := hu.below HB.out
      have hv2 := hv.below HB.out
      obtain ⟨_, _, _, _, _, _, he1, a1, a2, _⟩ := hu2
      obtain ⟨_, _, _, _, _, _, he2, b1, b2, _⟩ := hv2
      simp at he1 he2
      obtain ⟨⟨rfl, rfl, rfl⟩, _⟩ := he1
      obtain ⟨⟨rfl, rfl, rfl⟩, _⟩ := he2
      clear hu' hv' hu hv
      obtain ⟨ka, hka⟩ : ∃ ka, ka = e.k := ⟨_, rfl⟩
      obtain ⟨kb, hkb⟩ : ∃ kb, kb = f.k := ⟨_, rfl⟩
      rw [← hka] at x1 x2 a1 a2
      rw [← hkb] at y1 y2 b1 b2
      have Hc := fun (W : World) (hb : Below wr.heap.size wr W) => ref_key_compare (⟨_, _, _, rfl, a1.below hb, a2⟩ : KyV W (.agg #[.slice A0 n0 c0, .int .u64 ka.seq, .int .i64 ka.kind]) ka) (⟨_, _, _, rfl, b1.below hb, b2⟩ : KyV W (.agg #[.slice A1 n1 c1, .int .u64 kb.seq, .int .i64 kb.kind]) kb)
      obtain ⟨d, hd⟩ : ∃ d, d = keyCmp ka kb := ⟨_, rfl⟩
      rw [← hd] at Hc
      have HC := Kp.mk Hc
      have Hq := Kp.mk hq
      clear Hc hd hq hka hkb a1 a2 b1 b2
      go_wp2_with fail
      by_cases hneg : d < 0
      · go_region_with (first
          | (go_at_call 19; refine (HC.out _ ((Below.refl _ _).drew)).mono ?_; rintro e w1 ⟨rfl, hb1⟩; have HB1 := Kp.mk (HB.out.trans (((Below.refl wr.heap.size wr).drew.trans hb1).mono HB.out.size)); clear hb1))
        all_goals
          go_wp2
          go_roundw
          case rel => exact ⟨k + 1, by omega, by omega, by go_num, by omega, HB1⟩
          case measure => simp [intOf]; omega
      · go_region_with (first
          | (go_at_call 19; refine (HC.out _ ((Below.refl _ _).drew)).mono ?_; rintro e w1 ⟨rfl, hb1⟩; have HB1 := Kp.mk (HB.out.trans (((Below.refl wr.heap.size wr).drew.trans hb1).mono HB.out.size)); clear hb1))
        all_goals
          go_wp2
          go_ret
          exact ⟨_, rfl, fun _ => trivial, HB1.out⟩
    · go_wp2
      go_ret
      exact ⟨_, rfl, fun _ => trivial, HB.out⟩
end Go.Proofs.Ytinffeffffligaa.Bas
