import Derived.Test.YtinffeffffligaaBlC
import Derived.Deep.Slices
import Derived.Carry
set_option linter.unusedVariables false
set_option linter.unusedSimpArgs false
namespace Go.Proofs.Ytinffeffffligaa.Bas
open Go.RowKit Go.Maps Go.Deep
set_option maxRecDepth 100000

set_option maxHeartbeats 2000000 in
set_option maxRecDepth 100000 in
theorem same_entry {w : World} {us vs : Array Value} {e : En} (hu : EnC w us e) (hv : EnC w vs e) :
    Calls Try.prog 20 #[.agg us, .agg vs] w fun en w' => en = .returned (.bool true) ∧ Below w.heap.size w w' := by
  obtain ⟨A, n, c, A', n', c', rfl, h1, _, h3, _⟩ := hu
  obtain ⟨B, m, d, B', m', d', rfl, g1, _, g3, _⟩ := hv
  have hb := (alloc_below w (.cells #[.slice A n c, .int .u64 e.k.seq, .int .i64 e.k.kind, .slice A' n' c'] 48)).alloc (by simp) (.cells #[.slice B m d, .int .u64 e.k.seq, .int .i64 e.k.kind, .slice B' m' d'] 48)
  have k1 := rd_string (h1.below hb)
  have k2 := rd_string (h3.below hb)
  have k3 := rd_string (g1.below hb)
  have k4 := rd_string (g3.below hb)
  have HB := Kp.mk hb
  clear h1 h3 g1 g3 hb
  go_enter Try.func20, Try.ntmps20
  go_wp2
  go_ret
  exact ⟨rfl, HB.out⟩
set_option maxHeartbeats 4000000 in
set_option maxRecDepth 100000 in
theorem same_entries {w : World} {A B : Option Addr} {n c d : Nat} {es : List En} (h : Es w A n c es) (g : Es w B n d es) :
    Calls Try.prog 15 #[.slice A n c, .slice B n d] w fun en w' => en = .returned (.bool true) ∧ Below w.heap.size w w' := by
  have hm := h.max
  have H := Kp.mk h
  have G := Kp.mk g
  clear h g
  go_enter Try.func15, Try.ntmps15
  go_wp2_with fail
  go_loopw [5] (fun i wr => ∃ k : Nat, k ≤ n ∧ i = .int .i64 k ∧ Kp (Below w.heap.size w wr)) (fun i _ => n - (intOf i).toNat)
  case atStart => exact ⟨0, Nat.zero_le _, rfl, ⟨Below.refl _ _⟩⟩
  case round =>
    obtain ⟨k, hk, rfl, HB⟩ := hrel
    by_cases hlt : k < n
    · obtain ⟨b, off, rfl, hc⟩ := (H.out.below HB.out).cell (by omega)
      obtain ⟨b', off', rfl, hc'⟩ := (G.out.below HB.out).cell (by omega)
      obtain ⟨us, hu, hu'⟩ := hc k hlt
      obtain ⟨vs, hv, hv'⟩ := hc' k hlt
      have HC : Kp (∀ W, Below wr.heap.size wr W → Calls Try.prog 20 #[.agg us, .agg vs] W fun en w' => en = .returned (.bool true) ∧ Below W.heap.size W w') := ⟨fun W hb => same_entry (hu.below hb) (hv.below hb)⟩
      obtain ⟨A0, n0, c0, A0', n0', c0', rfl, a1, a2, a3, a4⟩ := hu
      obtain ⟨A1, n1, c1, A1', n1', c1', rfl, b1, b2, b3, b4⟩ := hv
      have x0 : wr.cell? ⟨b, off + k * 4, none⟩ = some (.slice A0 n0 c0) := hu' 0 _ rfl
      have x1 : wr.cell? ⟨b, off + k * 4 + 1, none⟩ = some (.int .u64 (es.getD k enD).k.seq) := hu' 1 _ rfl
      have x2 : wr.cell? ⟨b, off + k * 4 + 2, none⟩ = some (.int .i64 (es.getD k enD).k.kind) := hu' 2 _ rfl
      have x3 : wr.cell? ⟨b, off + k * 4 + 3, none⟩ = some (.slice A0' n0' c0') := hu' 3 _ rfl
      have y0 : wr.cell? ⟨b', off' + k * 4, none⟩ = some (.slice A1 n1 c1) := hv' 0 _ rfl
      have y1 : wr.cell? ⟨b', off' + k * 4 + 1, none⟩ = some (.int .u64 (es.getD k enD).k.seq) := hv' 1 _ rfl
      have y2 : wr.cell? ⟨b', off' + k * 4 + 2, none⟩ = some (.int .i64 (es.getD k enD).k.kind) := hv' 2 _ rfl
      have y3 : wr.cell? ⟨b', off' + k * 4 + 3, none⟩ = some (.slice A1' n1' c1') := hv' 3 _ rfl
      generalize (es.getD k enD).k.seq = sq at x1 y1 HC
      generalize (es.getD k enD).k.kind = kd at x2 y2 HC
      clear hu' hv' hc hc' a1 a2 a3 a4 b1 b2 b3 b4
      go_wp2_with fail
      have X0 := blw_cell x0
      have X1 := blw_cell x1
      have X2 := blw_cell x2
      have X3 := blw_cell x3
      have Y0 := blw_cell y0
      have Y1 := blw_cell y1
      have Y2 := blw_cell y2
      have Y3 := blw_cell y3
      clear x0 x1 x2 x3 y0 y1 y2 y3
      refine wp_region_below (by kernel_rfl) (by kernel_rfl) ?_
      repeat (first | go_big_quiet_step ((go_at_call 20; exact calls_blw (HC.out _ (Blw.h _)))) | quiet_step ((go_at_call 20; exact calls_blw (HC.out _ (Blw.h _)))))
      refine wpQuiet_nil ?_
      rintro _ ⟨pq, rfl⟩
      have HB1 := Kp.mk (HB.out.trans (pq.h.mono HB.out.size))
      go_wp2_with fail
      go_roundw
      case rel => exact ⟨k + 1, by omega, by go_num, HB1⟩
      case measure => simp [intOf]; omega
    · go_wp2_with fail
      go_ret
      exact ⟨rfl, HB.out⟩
/-! ### Entries of which only the lengths are read (whatever came in) -/
structure EsW (w : World) (A : Option Addr) (n c : Nat) (ls : List (Nat × Nat)) : Prop where
  len : ls.length = n
  max : n ≤ 9223372036854775807
  nil : A = none → n = 0 ∧ c = 0
  cell : 0 < n → ∃ b off, A = some ⟨b, off, none⟩ ∧ ∀ i, i < n → (∃ A0 c0, w.cell? ⟨b, off + i * 4, none⟩ = some (.slice A0 (ls.getD i (0, 0)).1 c0)) ∧ ∃ A1 c1, w.cell? ⟨b, off + i * 4 + 3, none⟩ = some (.slice A1 (ls.getD i (0, 0)).2 c1)
def bigL (ls : List (Nat × Nat)) : Bool := ls.any (fun e => decide (300 < e.1) || decide (300 < e.2)) || decide (60 < ls.length)
theorem bigL_true {ls : List (Nat × Nat)} {k : Nat} (hk : k < ls.length) (h : 300 < (ls.getD k (0, 0)).1 ∨ 300 < (ls.getD k (0, 0)).2) : bigL ls = true := by
  unfold bigL
  rw [Bool.or_eq_true, List.any_eq_true]
  refine .inl ⟨ls.getD k (0, 0), by simp [List.getD, hk], ?_⟩
  rw [Bool.or_eq_true]
  rcases h with h | h
  · exact .inl (decide_eq_true h)
  · exact .inr (decide_eq_true h)
theorem bigL_end {ls : List (Nat × Nat)} (h : ∀ j, j < ls.length → ¬ (300 < (ls.getD j (0, 0)).1 ∨ 300 < (ls.getD j (0, 0)).2)) : bigL ls = decide (60 < ls.length) := by
  unfold bigL
  rw [show ls.any (fun e => decide (300 < e.1) || decide (300 < e.2)) = false from ?_, Bool.false_or]
  rw [List.any_eq_false]
  intro x hx
  obtain ⟨i, hi, rfl⟩ := List.mem_iff_getElem.1 hx
  have := h i hi
  rw [List.getD_eq_getElem?_getD, List.getElem?_eq_getElem hi] at this
  simp at this ⊢
  omega
set_option maxHeartbeats 4000000 in
set_option maxRecDepth 100000 in
theorem big_weak {w : World} {A : Option Addr} {n c : Nat} {ls : List (Nat × Nat)} (h : EsW w A n c ls) : Calls Try.prog 10 #[.slice A n c] w fun e w' => e = .returned (.bool (bigL ls)) ∧ w' = w := by
  have hm := h.max
  have hl := h.len
  have H := Kp.mk h
  clear h
  go_enter Try.func10, Try.ntmps10
  go_wp2_with fail
  go_loopw [3] (fun i wr => ∃ k : Nat, k ≤ n ∧ i = .int .i64 k ∧ Kp (∀ j, j < k → ¬ (300 < (ls.getD j (0, 0)).1 ∨ 300 < (ls.getD j (0, 0)).2)) ∧ wr = w) (fun i _ => n - (intOf i).toNat)
  case atStart => exact ⟨0, Nat.zero_le _, rfl, ⟨fun j hj => by omega⟩, rfl⟩
  case round =>
    obtain ⟨k, hk, rfl, HN, rfl⟩ := hrel
    by_cases hlt : k < n
    · obtain ⟨b, off, rfl, hc⟩ := H.out.cell (by omega)
      obtain ⟨⟨A0, c0, x0⟩, A0', c0', x3⟩ := hc k hlt
      have HB := Kp.mk (fun h => bigL_true (ls := ls) (k := k) (by omega) h)
      have HK : Kp (¬ (300 < (ls.getD k (0, 0)).1 ∨ 300 < (ls.getD k (0, 0)).2) → ∀ j, j < k + 1 → ¬ (300 < (ls.getD j (0, 0)).1 ∨ 300 < (ls.getD j (0, 0)).2)) := ⟨fun h j hj => by
        by_cases hjk : j = k
        · rw [hjk]; exact h
        · exact HN.out j (by omega)⟩
      obtain ⟨n0, hn0⟩ : ∃ n0, n0 = (ls.getD k (0, 0)).1 := ⟨_, rfl⟩
      obtain ⟨n0', hn0'⟩ : ∃ n0', n0' = (ls.getD k (0, 0)).2 := ⟨_, rfl⟩
      rw [← hn0] at x0 HB HK
      rw [← hn0'] at x3 HB HK
      clear hc hn0 hn0'
      by_cases h1 : 300 < n0
      · have h1z : (300 : Int) < (n0 : Int) := by omega
        have hb := Kp.mk (HB.out (.inl h1))
        clear HB HK
        go_wp2_with fail
        go_ret
        exact ⟨ret_bool hb.out.symm, rfl⟩
      · have h1z : ¬ (300 : Int) < (n0 : Int) := by omega
        by_cases h2 : 300 < n0'
        · have h2z : (300 : Int) < (n0' : Int) := by omega
          have hb := Kp.mk (HB.out (.inr h2))
          clear HB HK
          go_wp2_with fail
          go_ret
          exact ⟨ret_bool hb.out.symm, rfl⟩
        · have h2z : ¬ (300 : Int) < (n0' : Int) := by omega
          have HN' := Kp.mk (HK.out (by omega))
          clear HB HK HN
          go_wp2_with fail
          go_roundw
          case rel => exact ⟨k + 1, by omega, by go_num, HN', by first | rfl | trivial⟩
          case measure => simp [intOf]; omega
    · have hb := Kp.mk (bigL_end (ls := ls) (fun j hj => HN.out j (by omega)))
      clear HN
      go_wp2_with fail
      go_ret
      exact ⟨ret_bool (by rw [hb.out, hl]; by_cases h60 : 60 < n <;> simp [h60] <;> omega), rfl⟩
theorem byt_wf {n : Int} (h : (Lit.int .u8 n).wf = true) : 0 ≤ n ∧ n ≤ 255 := by
  simp [Lit.wf, IntKind.min, IntKind.max, IntKind.signed, IntKind.bits] at h; omega
/-- Bytes that came in. -/
theorem open_bytes {H : Type} {enc : TypeId × Value → H} {w : World} {base : Nat} {spare : Nat → Bool} {held : Bool} {fuel : Nat} {cs : List Value} {x : DataW H × List MemPlace} (h : DataW.trod enc Try.prog w base spare held fuel 25 cs = some x) :
    ∃ A n c, cs = [.slice A n c] ∧ (n ≤ 140737488355328 → ∃ xs, Rd w .u8 A n c xs ∧ Byt xs) := by
  rcases open_slice1 Try.underlying25 (by kernel_rfl) h with ⟨rfl, _⟩ | ⟨a, len, cap, m, n, V, D, Pl, rfl, _, hl, hm, hmm, _, hel⟩
  · exact ⟨none, 0, 0, rfl, fun _ => ⟨[], Rd.nil0 _ _, fun x hx => by cases hx⟩⟩
  · refine ⟨some a, len, cap, rfl, fun hle => ?_⟩
    have hlm : len ≤ m := by rw [hmm]; split <;> omega
    obtain ⟨F, hF⟩ := choose_lt (α := Int) (n := len) (p := fun i z => w.cell? (a.add i) = some (.int .u8 z) ∧ (Lit.int .u8 z).wf = true) (fun i hi => by
      obtain ⟨h1, h2⟩ := hel i (by omega)
      obtain ⟨z, e, _, hw⟩ := DataW.trod_int Try.underlying5 h2
      injection e with e _
      exact ⟨z, by rw [h1, e], hw⟩)
    refine ⟨(List.range len).map F, ⟨by simp, hle, (fun e => by cases e), fun hp => ⟨a, rfl, fun j hj => ?_⟩⟩, fun y hy => ?_⟩
    · rw [(hF j hj).1]
      simp [List.getD, hj]
    · obtain ⟨i, hi, rfl⟩ := List.mem_map.1 hy
      exact byt_wf (hF i (List.mem_range.1 hi)).2
theorem list2 {α : Type} {l : List α} (h : l.length = 2) : ∃ a b, l = [a, b] := by
  match l, h with
  | [a, b], _ => exact ⟨a, b, rfl⟩
theorem list3 {α : Type} {l : List α} (h : l.length = 3) : ∃ a b c, l = [a, b, c] := by
  match l, h with
  | [a, b, c], _ => exact ⟨a, b, c, rfl⟩
theorem list4 {α : Type} {l : List α} (h : l.length = 4) : ∃ a b c d, l = [a, b, c, d] := by
  match l, h with
  | [a, b, c, d], _ => exact ⟨a, b, c, d, rfl⟩
theorem u64_wf {n : Int} (h : (Lit.int .u64 n).wf = true) : 0 ≤ n := by
  simp [Lit.wf, IntKind.min, IntKind.max, IntKind.signed, IntKind.bits] at h; omega
/-- An entry that came in. -/
theorem open_entry {H : Type} {enc : TypeId × Value → H} {w : World} {base : Nat} {spare : Nat → Bool} {held : Bool} {fuel : Nat} {cs : List Value} {x : DataW H × List MemPlace} (h : DataW.trod enc Try.prog w base spare held fuel 48 cs = some x) :
    ∃ A n c s k A' n' c', cs = [.slice A n c, .int .u64 s, .int .i64 k, .slice A' n' c'] ∧ 0 ≤ s ∧ (n ≤ 300 → n' ≤ 300 → ∃ e : En, EnC w #[.slice A n c, .int .u64 s, .int .i64 k, .slice A' n' c'] e ∧ e.k.key.length = n ∧ e.val.length = n') := by
  obtain ⟨xs, n, _, _, hl, hxl, hf⟩ := DataW.trod_struct Try.underlying48 h
  rw [show Try.prog.cellsOf 48 = 4 from by kernel_rfl] at hl
  obtain ⟨v0, v1, v2, v3, rfl⟩ := list4 hl
  obtain ⟨y0, y1, rfl⟩ := list2 (show xs.length = 2 from hxl)
  have h0 : DataW.trod enc Try.prog w base spare held n 46 [v0, v1, v2] = some y0 := hf 0 _ rfl
  have h1 : DataW.trod enc Try.prog w base spare held n 25 [v3] = some y1 := hf 1 _ rfl
  obtain ⟨zs, m, _, _, hl2, hzl, hg⟩ := DataW.trod_struct Try.underlying46 h0
  obtain ⟨z0, z1, z2, rfl⟩ := list3 (show zs.length = 3 from hzl)
  have k0 : DataW.trod enc Try.prog w base spare held m 25 [v0] = some z0 := hg 0 _ rfl
  have k1 : DataW.trod enc Try.prog w base spare held m 44 [v1] = some z1 := hg 1 _ rfl
  have k2 : DataW.trod enc Try.prog w base spare held m 3 [v2] = some z2 := hg 2 _ rfl
  obtain ⟨A, n0, c, e0, o0⟩ := open_bytes k0
  obtain ⟨a1, e1, _, hw1⟩ := DataW.trod_int Try.underlying44 k1
  obtain ⟨a2, e2, _⟩ := DataW.trod_int Try.underlying3 k2
  obtain ⟨A', n1, c', e3, o3⟩ := open_bytes h1
  cases e0; cases e1; cases e2; cases e3
  refine ⟨A, n0, c, a1, a2, A', n1, c', rfl, u64_wf hw1, fun q0 q1 => ?_⟩
  obtain ⟨xs, r0, b0⟩ := o0 (by omega)
  obtain ⟨ys, r1, b1⟩ := o3 (by omega)
  exact ⟨⟨⟨xs, a1, a2⟩, ys⟩, ⟨A, n0, c, A', n1, c', rfl, r0, b0, r1, b1⟩, r0.len, r1.len⟩
instance : Inhabited En := ⟨enD⟩
/-- A cell is told only where the address has no part. -/
theorem addr_plain {w : World} {a : Addr} {v : Value} (h : w.cell? (a.add 0) = some v) : ∃ b off, a = ⟨b, off, none⟩ := by
  obtain ⟨b, off, s⟩ := a
  cases s with
  | none => exact ⟨b, off, rfl⟩
  | some z =>
    exfalso
    have e : (⟨b, off, some z⟩ : Addr).add 0 = ⟨b, off, some z⟩ := rfl
    rw [e] at h
    unfold World.cell? at h
    split at h
    · simp at h
    · cases h
/-- Entries that came in: their lengths; and, where they are not too great, themselves. -/
theorem open_entries {H : Type} {enc : TypeId × Value → H} {w : World} {base : Nat} {spare : Nat → Bool} {held : Bool} {fuel : Nat} {cs : List Value} {x : DataW H × List MemPlace} (h : DataW.trod enc Try.prog w base spare held fuel 22 cs = some x) :
    ∃ A n c ls, cs = [.slice A n c] ∧ EsW w A n c ls ∧ (bigL ls = false → ∃ es, Es w A n c es ∧ ∀ j, j < es.length → 0 ≤ (es.getD j enD).k.seq) := by
  rcases open_slice Try.underlying22 h with ⟨rfl, _⟩ | ⟨a, len, cap, m, n, D, Pl, rfl, _, hl, hm, hmm, _, hel⟩
  · exact ⟨none, 0, 0, [], rfl, ⟨rfl, Nat.zero_le _, fun _ => ⟨rfl, rfl⟩, fun h => absurd h (Nat.lt_irrefl 0)⟩, fun _ => ⟨[], ⟨rfl, Nat.zero_le _, fun _ => ⟨rfl, rfl⟩, fun h => absurd h (Nat.lt_irrefl 0)⟩, fun j hj => absurd hj (Nat.not_lt_zero j)⟩⟩
  · have hlm : len ≤ m := by rw [hmm]; split <;> omega
    have h4 : Try.prog.cellsOf 48 = 4 := by kernel_rfl
    rw [h4] at hel
    obtain ⟨F, hF⟩ := choose_lt (α := Nat × Nat) (n := len) (p := fun i p => ∃ A0 c0 s k A1 c1, 0 ≤ s ∧ (∀ j u, [Value.slice A0 p.1 c0, .int .u64 s, .int .i64 k, .slice A1 p.2 c1][j]? = some u → w.cell? (a.add (i * 4 + j)) = some u) ∧ (p.1 ≤ 300 → p.2 ≤ 300 → ∃ e : En, EnC w #[.slice A0 p.1 c0, .int .u64 s, .int .i64 k, .slice A1 p.2 c1] e)) (fun i hi => by
      obtain ⟨cs', h1, h2⟩ := hel i (by omega)
      obtain ⟨_, hlen, hcell⟩ := World.cells?_some h1
      obtain ⟨A0, n0, c0, s, k, A1, n1, c1, rfl, hs0, ho⟩ := open_entry h2
      refine ⟨(n0, n1), A0, c0, s, k, A1, c1, hs0, fun j u hu => ?_, fun q0 q1 => ?_⟩
      · have hj : j < 4 := (List.getElem?_eq_some_iff.1 hu).1
        have := hcell j hj
        rw [Go.Deep.add_add] at this
        rw [this, hu]
      · obtain ⟨e, he, _, _⟩ := ho q0 q1
        exact ⟨e, he⟩)
    have hpl : 0 < len → ∃ b off, a = ⟨b, off, none⟩ := fun hp => by
      obtain ⟨A0, c0, s, k, A1, c1, _, hc, _⟩ := hF 0 hp
      exact addr_plain (hc 0 _ rfl)
    have hget : ∀ i, i < len → ((List.range len).map F).getD i (0, 0) = F i := fun i hi => by simp [List.getD, hi]
    refine ⟨some a, len, cap, (List.range len).map F, rfl, ⟨by simp, by unfold maxLen at hm; omega, (fun e => by cases e), fun hp => ?_⟩, fun hb => ?_⟩
    · obtain ⟨b, off, rfl⟩ := hpl hp
      refine ⟨b, off, rfl, fun i hi => ?_⟩
      rw [hget i hi]
      obtain ⟨A0, c0, s, k, A1, c1, _, hc, _⟩ := hF i hi
      have z0 := hc 0 _ rfl
      have z3 := hc 3 _ rfl
      rw [Addr.add_lit] at z0 z3
      exact ⟨⟨A0, c0, z0⟩, A1, c1, by rw [show off + i * 4 + 3 = off + (i * 4 + 3) by omega]; exact z3⟩
    · unfold bigL at hb
      rw [Bool.or_eq_false_iff] at hb
      have h60 := of_decide_eq_false hb.2
      rw [List.length_map, List.length_range] at h60
      have hsm : ∀ i, i < len → (F i).1 ≤ 300 ∧ (F i).2 ≤ 300 := fun i hi => by
        have := (List.any_eq_false.1 hb.1) (F i) (List.mem_map.2 ⟨i, List.mem_range.2 hi, rfl⟩)
        simp at this
        omega
      obtain ⟨G, hG⟩ := choose_lt (α := En) (n := len) (p := fun i e => 0 ≤ e.k.seq ∧ ∃ vs, EnC w vs e ∧ ∀ j v, vs[j]? = some v → w.cell? (a.add (i * 4 + j)) = some v) (fun i hi => by
        obtain ⟨A0, c0, s, k, A1, c1, hs0, hc, ho⟩ := hF i hi
        obtain ⟨e, he⟩ := ho (hsm i hi).1 (hsm i hi).2
        have hse : e.k.seq = s := by
          obtain ⟨_, _, _, _, _, _, hv, _⟩ := he
          simp at hv
          exact hv.2.1.symm
        exact ⟨e, by rw [hse]; exact hs0, _, he, fun j v hv => hc j v (by simpa using hv)⟩)
      refine ⟨(List.range len).map G, ⟨by simp, by omega, (fun e => by cases e), fun hp => ?_⟩, fun j hj => by
        have hj2 : j < len := by simpa using hj
        rw [show ((List.range len).map G).getD j enD = G j by simp [List.getD, hj2]]
        exact (hG j hj2).1⟩
      obtain ⟨b, off, rfl⟩ := hpl hp
      refine ⟨b, off, rfl, fun i hi => ?_⟩
      obtain ⟨_, vs, he, hc⟩ := hG i hi
      refine ⟨vs, by rw [show ((List.range len).map G).getD i enD = G i by simp [List.getD, hi]]; exact he, fun j v hv => ?_⟩
      have := hc j v hv
      rwa [Addr.add_lit, ← Nat.add_assoc] at this
end Go.Proofs.Ytinffeffffligaa.Bas
