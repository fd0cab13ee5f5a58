import Derived.Test.YtinffeffffligaaBlZs
set_option linter.unusedVariables false
set_option linter.unusedSimpArgs false
namespace Go.Proofs.Ytinffeffffligaa.Bas
open Go.RowKit Go.Maps
open Go.Deep

/-! ### Lists that are too great, or not right, are not built -/
def ErrP (w : World) (e : Ending) (w' : World) : Prop := ∃ r : Int, r ≠ 0 ∧ e = .returned (.int .i64 r) ∧ Below w.heap.size w w'
/-- The sizes of the entry at a place. -/
def SizeOk (w : World) (b off : Nat) : Prop := ∃ A0 n0 c0 A1 n1 c1, n0 ≤ 5000 ∧ n1 ≤ 5000 ∧ ∃ e : En, EnC w #[.slice A0 n0 c0, .int .u64 e.k.seq, .int .i64 e.k.kind, .slice A1 n1 c1] e ∧ 0 ≤ e.k.seq ∧ ∀ j u, [Value.slice A0 n0 c0, .int .u64 e.k.seq, .int .i64 e.k.kind, .slice A1 n1 c1][j]? = some u → w.cell? ⟨b, off + j, none⟩ = some u
set_option maxHeartbeats 2000000 in
set_option maxRecDepth 100000 in
theorem may_weak {w : World} {A : Option Addr} {n c : Nat} (h : EsV w A n c) (hbad : ∀ b off, A = some ⟨b, off, none⟩ → ¬ (n ≤ 1000000 ∧ ∀ i, i < n → SizeOk w b (off + i * 4))) (hn0 : 0 < n) : Calls Try.prog 32 #[.slice A n c] w (ErrP w) := by
  have hm := h.max
  have H := Kp.mk h
  have HBad := Kp.mk hbad
  obtain ⟨b, off, rfl, hcell⟩ := h.cell hn0
  have HCl := Kp.mk hcell
  clear h hbad hcell
  go_enter Try.func32, Try.ntmps32
  go_wp2_with fail
  go_loopw [3] (fun i wr => ∃ k : Nat, k ≤ n ∧ i = .int .i64 k ∧ Kp (∀ j, j < k → SizeOk w b (off + j * 4)) ∧ Kp (Below w.heap.size w wr)) (fun i _ => n - (intOf i).toNat)
  case atStart => exact ⟨0, Nat.zero_le _, rfl, ⟨fun j hj => by omega⟩, ⟨Below.refl _ _⟩⟩
  case round =>
    obtain ⟨k, hk, rfl, HA, HB⟩ := hrel
    by_cases hlt : k < n
    · obtain ⟨A0, n0, c0, s, kd, A1, n1, c1, hs0, hc, ho⟩ := (HCl.out k hlt).out
      have x0 := cell_kept HB.out (hc 0 _ rfl)
      rw [Nat.add_zero] at x0
      have x1 := cell_kept HB.out (hc 1 _ rfl)
      have x2 := cell_kept HB.out (hc 2 _ rfl)
      have x3 := cell_kept HB.out (hc 3 _ rfl)
      have HC := Kp.mk (right_weak wr A0 n0 c0 s kd A1 n1 c1)
      have HSz : Kp ((n0 ≤ 5000 ∧ n1 ≤ 5000) → SizeOk w b (off + k * 4)) := ⟨fun hh => by
        obtain ⟨e, he⟩ := ho hh.1 hh.2
        have he2 := he
        obtain ⟨_, _, _, _, _, _, hv, _⟩ := he2
        simp at hv
        obtain ⟨_, h1, h2, _⟩ := hv
        subst h1
        subst h2
        exact ⟨A0, n0, c0, A1, n1, c1, hh.1, hh.2, e, he, hs0, fun j u hu => hc j u hu⟩⟩
      clear hc ho
      go_wp2_with fail
      refine HC.out.mono ?_
      rintro e w1 ⟨bb, rfl, hbn, hb1⟩
      have HB1 := Kp.mk (HB.out.trans (hb1.mono HB.out.size))
      have HBn := Kp.mk hbn
      clear hb1 hbn x0 x1 x2 x3
      cases bb
      · go_wp2_with fail
        go_ret
        exact ⟨1, by omega, rfl, HB1.out⟩
      · have HA2 : Kp (∀ j, j < k + 1 → SizeOk w b (off + j * 4)) := ⟨fun j hj => by
          rcases Nat.lt_or_ge j k with h1 | h1
          · exact HA.out j h1
          · obtain rfl : j = k := by omega
            exact HSz.out (HBn.out rfl)⟩
        go_wp2_with fail
        go_roundw
        case rel => exact ⟨k + 1, by omega, by go_num, HA2, HB1⟩
        case measure => simp [intOf]; omega
    · obtain rfl : n = k := by omega
      have hbig : 1000000 < n := by
        rcases Nat.lt_or_ge 1000000 n with h1 | h1
        · exact h1
        · exact absurd ⟨h1, HA.out⟩ (HBad.out b off rfl)
      have HC := Kp.mk (rising_weak (H.out.below HB.out) (fun b' off' he i hi => by
        injection he with he
        injection he with h1 h2 _
        subst h1 h2
        obtain ⟨A0, n0, c0, A1, n1, c1, _, _, e, he, _, hc⟩ := HA.out i hi
        exact ⟨A0, n0, c0, A1, n1, c1, e, he.below HB.out, fun j u hu => cell_kept HB.out (hc j u hu)⟩))
      have hb10 : 10000 < n := by omega
      go_wp2_with fail
      refine HC.out.mono ?_
      rintro e w1 ⟨bb, rfl, _, hb1⟩
      have HB1 := Kp.mk (HB.out.trans (hb1.mono HB.out.size))
      clear hb1
      cases bb
      · go_wp2_with fail
        go_ret
        exact ⟨10, by omega, rfl, HB1.out⟩
      · go_wp2_with fail
        go_ret
        exact ⟨3, by omega, rfl, HB1.out⟩
/-- The reference's Build fails. -/
def BErrP (w : World) (e : Ending) (w' : World) : Prop := ∃ r : Int, r ≠ 0 ∧ e = .returned (.tuple #[.slice none 0 0, .int .i64 r]) ∧ Below w.heap.size w w'
set_option maxHeartbeats 2000000 in
set_option maxRecDepth 100000 in
theorem build_weak {w : World} {A : Option Addr} {n c : Nat} (h : Calls Try.prog 32 #[.slice A n c] w (ErrP w)) (st : Int) : Calls Try.prog 12 #[.slice A n c, .int .i64 st] w (BErrP w) := by
  have H := Kp.mk h
  clear h
  go_enter Try.func12, Try.ntmps12
  go_wp2_with fail
  refine H.out.mono ?_
  rintro e w1 ⟨r, hr, rfl, hb1⟩
  have h1 : (r == 0) = false := by simpa using hr
  have h2 : (r != 0) = true := by simpa using hr
  have HB1 := Kp.mk hb1
  have HR := Kp.mk hr
  clear hr hb1
  go_wp2_with fail
  go_ret2
  exact ⟨r, HR.out, rfl, HB1.out⟩
/-- Whatever entries came in: they are told, or the reference does not build them. -/
theorem es_or {w : World} {A : Option Addr} {n c : Nat} (h : EsV w A n c) : (∃ es, Es w A n c es ∧ SeqE es) ∨ (∀ W, Below w.heap.size w W → ∀ st, Calls Try.prog 12 #[.slice A n c, .int .i64 st] W (BErrP W)) := by
  rcases Nat.eq_zero_or_pos n with h0 | h0
  · subst h0
    exact .inl ⟨[], ⟨rfl, Nat.zero_le _, h.nil, fun h => absurd h (Nat.lt_irrefl 0)⟩, fun j hj => absurd hj (Nat.not_lt_zero j)⟩
  · obtain ⟨b, off, rfl, hcell⟩ := h.cell h0
    by_cases hg : n ≤ 1000000 ∧ ∀ i, i < n → SizeOk w b (off + i * 4)
    · left
      obtain ⟨G, hG⟩ := choose_lt (α := En) (n := n) (p := fun i e => 0 ≤ e.k.seq ∧ ∃ vs, EnC w vs e ∧ ∀ j v, vs[j]? = some v → w.cell? ⟨b, off + i * 4 + j, none⟩ = some v) (fun i hi => by
        obtain ⟨A0, n0, c0, A1, n1, c1, _, _, e, he, hs, hc⟩ := hg.2 i hi
        exact ⟨e, hs, _, he, fun j v hv => hc j v (by simpa using hv)⟩)
      refine ⟨(List.range n).map G, ⟨by simp, hg.1, (fun e => by cases e), fun hp => ⟨b, off, rfl, fun i hi => ?_⟩⟩, fun j hj => ?_⟩
      · obtain ⟨_, vs, he, hc⟩ := hG i hi
        exact ⟨vs, by rw [show ((List.range n).map G).getD i enD = G i by simp [List.getD, hi]]; exact he, hc⟩
      · have hj2 : j < n := by simpa using hj
        rw [show ((List.range n).map G).getD j enD = G j by simp [List.getD, hj2]]
        exact (hG j hj2).1
    · right
      intro W hb st
      refine build_weak (may_weak (h.below hb) (fun b' off' he hh => hg ?_) h0) st
      injection he with he
      injection he with h1 h2 _
      subst h1 h2
      refine ⟨hh.1, fun i hi => ?_⟩
      obtain ⟨A0, n0, c0, s, k, A1, n1, c1, hs0, hc, ho⟩ := (hcell i hi).out
      obtain ⟨B0, m0, d0, B1, m1, d1, q0, q1, e, he, hs, hcW⟩ := hh.2 i hi
      have z0 := (cell_kept hb (hc 0 _ rfl)).symm.trans (hcW 0 _ rfl)
      have z3 := (cell_kept hb (hc 3 _ rfl)).symm.trans (hcW 3 _ rfl)
      simp at z0 z3
      obtain ⟨_, rfl, _⟩ := z0
      obtain ⟨_, rfl, _⟩ := z3
      obtain ⟨e2, he2⟩ := ho q0 q1
      have he3 := he2
      obtain ⟨_, _, _, _, _, _, hv, _⟩ := he3
      simp at hv
      obtain ⟨_, h1, h2, _⟩ := hv
      subst h1
      subst h2
      exact ⟨A0, _, c0, A1, _, c1, q0, q1, e2, he2, hs0, fun j u hu => hc j u hu⟩
set_option maxRecDepth 100000 in
/-- An entry that came in. -/
theorem open_entry5 {H : Type} {enc : TypeId × Value → H} {w : World} {base : Nat} {spare : Nat → Bool} {held : Bool} {fuel : Nat} {cs : List Value} {x : DataW H × List MemPlace} (h : DataW.trod enc Try.prog w base spare held fuel 48 cs = some x) :
    ∃ A n c s k A' n' c', cs = [.slice A n c, .int .u64 s, .int .i64 k, .slice A' n' c'] ∧ 0 ≤ s ∧ (n ≤ 5000 → n' ≤ 5000 → ∃ e : En, EnC w #[.slice A n c, .int .u64 s, .int .i64 k, .slice A' n' c'] e) := by
  obtain ⟨xs, n, _, _, hl, hxl, hf⟩ := DataW.trod_struct Try.underlying48 h
  rw [show Try.prog.cellsOf 48 = 4 from by kernel_rfl] at hl
  obtain ⟨v0, v1, v2, v3, rfl⟩ := list4 hl
  obtain ⟨y0, y1, rfl⟩ := list2 (show xs.length = 2 from hxl)
  have h0 : DataW.trod enc Try.prog w base spare held n 46 [v0, v1, v2] = some y0 := hf 0 _ rfl
  have h1 : DataW.trod enc Try.prog w base spare held n 25 [v3] = some y1 := hf 1 _ rfl
  obtain ⟨zs, m, _, _, hl2, hzl, hg⟩ := DataW.trod_struct Try.underlying46 h0
  obtain ⟨z0, z1, z2, rfl⟩ := list3 (show zs.length = 3 from hzl)
  have k0 : DataW.trod enc Try.prog w base spare held m 25 [v0] = some z0 := hg 0 _ rfl
  have k1 : DataW.trod enc Try.prog w base spare held m 44 [v1] = some z1 := hg 1 _ rfl
  have k2 : DataW.trod enc Try.prog w base spare held m 3 [v2] = some z2 := hg 2 _ rfl
  obtain ⟨A, n0, c, e0, o0⟩ := open_bytes k0
  obtain ⟨a1, e1, _, hw1⟩ := DataW.trod_int Try.underlying44 k1
  obtain ⟨a2, e2, _⟩ := DataW.trod_int Try.underlying3 k2
  obtain ⟨A', n1, c', e3, o3⟩ := open_bytes h1
  cases e0; cases e1; cases e2; cases e3
  refine ⟨A, n0, c, a1, a2, A', n1, c', rfl, u64_wf hw1, fun q0 q1 => ?_⟩
  obtain ⟨xs, r0, b0⟩ := o0 (by omega)
  obtain ⟨ys, r1, b1⟩ := o3 (by omega)
  exact ⟨⟨⟨xs, a1, a2⟩, ys⟩, ⟨A, n0, c, A', n1, c', rfl, r0, b0, r1, b1⟩⟩
set_option maxRecDepth 100000 in
theorem open_esV {H : Type} {enc : TypeId × Value → H} {w : World} {base : Nat} {spare : Nat → Bool} {held : Bool} {fuel : Nat} {cs : List Value} {x : DataW H × List MemPlace} (h : DataW.trod enc Try.prog w base spare held fuel 22 cs = some x) :
    ∃ A n c, cs = [.slice A n c] ∧ EsV w A n c := by
  rcases open_slice Try.underlying22 h with ⟨rfl, _⟩ | ⟨a, len, cap, m, n, D, Pl, rfl, _, hl, hm, hmm, _, hel⟩
  · exact ⟨none, 0, 0, rfl, ⟨Nat.zero_le _, fun _ => ⟨rfl, rfl⟩, fun h => absurd h (Nat.lt_irrefl 0)⟩⟩
  · have hlm : len ≤ m := by rw [hmm]; split <;> omega
    have h4 : Try.prog.cellsOf 48 = 4 := by kernel_rfl
    rw [h4] at hel
    have hE : ∀ i, i < len → ∃ A0 n0 c0 s k A1 n1 c1, 0 ≤ s ∧ (∀ j u, [Value.slice A0 n0 c0, .int .u64 s, .int .i64 k, .slice A1 n1 c1][j]? = some u → w.cell? (a.add (i * 4 + j)) = some u) ∧ (n0 ≤ 5000 → n1 ≤ 5000 → ∃ e : En, EnC w #[.slice A0 n0 c0, .int .u64 s, .int .i64 k, .slice A1 n1 c1] e) := fun i hi => by
      obtain ⟨cs', h1, h2⟩ := hel i (by omega)
      obtain ⟨_, hlen, hcell⟩ := World.cells?_some h1
      obtain ⟨A0, n0, c0, s, k, A1, n1, c1, rfl, hs0, ho⟩ := open_entry5 h2
      refine ⟨A0, n0, c0, s, k, A1, n1, c1, hs0, fun j u hu => ?_, ho⟩
      have hj : j < 4 := (List.getElem?_eq_some_iff.1 hu).1
      have := hcell j hj
      rw [Go.Deep.add_add] at this
      rw [this, hu]
    refine ⟨some a, len, cap, rfl, ⟨by unfold maxLen at hm; omega, (fun e => by cases e), fun hp => ?_⟩⟩
    obtain ⟨b, off, rfl⟩ : ∃ b off, a = ⟨b, off, none⟩ := by
      obtain ⟨A0, n0, c0, s, k, A1, n1, c1, _, hc, _⟩ := hE 0 hp
      exact addr_plain (hc 0 _ rfl)
    refine ⟨b, off, rfl, fun i hi => ?_⟩
    obtain ⟨A0, n0, c0, s, k, A1, n1, c1, hs0, hc, ho⟩ := hE i hi
    refine ⟨A0, n0, c0, s, k, A1, n1, c1, hs0, fun j u hu => ?_, ho⟩
    have := hc j u hu
    rw [Addr.add_lit, ← Nat.add_assoc] at this
    exact this
theorem agg_of {v : Value} {a b : Value} {cs : List Value} (h : v.cells.toList = a :: b :: cs) : v = .agg (a :: b :: cs).toArray := by
  cases v <;> simp [Value.cells] at h
  rename_i l
  rw [← h]
set_option maxRecDepth 100000 in
theorem open_key3 {H : Type} {enc : TypeId × Value → H} {w : World} {base : Nat} {spare : Nat → Bool} {held : Bool} {fuel : Nat} {cs : List Value} {x : DataW H × List MemPlace} (h : DataW.trod enc Try.prog w base spare held fuel 46 cs = some x) :
    ∃ A n c s k, cs = [.slice A n c, .int .u64 s, .int .i64 k] ∧ (n ≤ 140737488355328 → ∃ xs, Rd w .u8 A n c xs ∧ Byt xs) := by
  obtain ⟨zs, m, _, _, hl2, hzl, hg⟩ := DataW.trod_struct Try.underlying46 h
  rw [show Try.prog.cellsOf 46 = 3 from by kernel_rfl] at hl2
  obtain ⟨v0, v1, v2, rfl⟩ := list3 hl2
  obtain ⟨z0, z1, z2, rfl⟩ := list3 (show zs.length = 3 from hzl)
  have k0 : DataW.trod enc Try.prog w base spare held m 25 [v0] = some z0 := hg 0 _ rfl
  have k1 : DataW.trod enc Try.prog w base spare held m 44 [v1] = some z1 := hg 1 _ rfl
  have k2 : DataW.trod enc Try.prog w base spare held m 3 [v2] = some z2 := hg 2 _ rfl
  obtain ⟨A, n0, c, e0, o0⟩ := open_bytes k0
  obtain ⟨a1, e1, _, hw1⟩ := DataW.trod_int Try.underlying44 k1
  obtain ⟨a2, e2, _⟩ := DataW.trod_int Try.underlying3 k2
  cases e0; cases e1; cases e2
  exact ⟨A, n0, c, a1, a2, rfl, o0⟩
theorem open_entries3 {H : Type} {enc : TypeId × Value → H} {w : World} {base : Nat} {spare : Nat → Bool} {held : Bool} {fuel : Nat} {cs : List Value} {x : DataW H × List MemPlace} (h : DataW.trod enc Try.prog w base spare held fuel 22 cs = some x) :
    ∃ A n c ls, cs = [.slice A n c] ∧ EsW w A n c ls ∧ (bigL ls = false → ∃ es, Es w A n c es ∧ SeqE es) ∧ ((∃ es, Es w A n c es ∧ SeqE es) ∨ (∀ W, Below w.heap.size w W → ∀ st, Calls Try.prog 12 #[.slice A n c, .int .i64 st] W (BErrP W))) := by
  obtain ⟨A, n, c, ls, e, h1, h2⟩ := open_entries h
  obtain ⟨A', n', c', e', h3⟩ := open_esV h
  rw [e] at e'
  injection e' with e' _
  injection e' with e1 e2 e3
  subst e1 e2 e3
  exact ⟨A, n, c, ls, e, h1, h2, es_or h3⟩
end Go.Proofs.Ytinffeffffligaa.Bas
