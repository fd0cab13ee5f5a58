import Derived.Test.YtgeklapphkgdkaaDsPc
import Derived.Deep.Slices
import Derived.Carry
import Derived.ChangeArms
set_option linter.unusedVariables false
set_option linter.unusedSimpArgs false
namespace Go.Proofs.Ytgeklapphkgdkaa.Dsk
open Go.RowKit Go.Maps Go.Deep

/-! ### Acts that came in -/
structure AD where
  way : Int
  at_ : Int
  n : Int
  P : ByteArray
  Q : ByteArray
  Ab : Option Addr
  nb : Nat
  cb : Nat
  Al : Option Addr
  nl : Nat
  cl : Nat
def adD : AD := ⟨0, 0, 0, ByteArray.empty, ByteArray.empty, none, 0, 0, none, 0, 0⟩
instance : Inhabited AD := ⟨adD⟩
def AD.vs (a : AD) : Array Value := #[.int .i64 a.way, .int .i64 a.at_, .int .i64 a.n, .string a.P, .string a.Q, .slice a.Ab a.nb a.cb, .slice a.Al a.nl a.cl]
def inI (x : Int) : Prop := -9223372036854775808 ≤ x ∧ x ≤ 9223372036854775807
structure ADok (w : World) (a : AD) : Prop where
  way : inI a.way
  at_ : inI a.at_
  n : inI a.n
  P : a.P.size ≤ 9223372036854775807
  Q : a.Q.size ≤ 9223372036854775807
  nb : a.nb ≤ 9223372036854775807
  nl : a.nl ≤ 9223372036854775807
  b : a.nb ≤ 1000 → ∃ b, Rd w .u8 a.Ab a.nb a.cb b
  l : a.nl ≤ 1000 → ∃ l, Rd w .i64 a.Al a.nl a.cl l
structure Acts (w : World) (A : Option Addr) (n c : Nat) (l : List AD) : Prop where
  len : l.length = n
  max : n ≤ 9223372036854775807
  nil : A = none → n = 0 ∧ c = 0
  cell : 0 < n → ∃ b off, A = some ⟨b, off, none⟩ ∧ ∀ i, i < n → ∀ j v, ((l.getD i adD).vs)[j]? = some v → w.cell? ⟨b, off + i * 7 + j, none⟩ = some v
  ok : ∀ i, i < n → ADok w (l.getD i adD)
theorem inI_wf {x : Int} (h : (Lit.int .i64 x).wf = true) : inI x := by
  simp [Lit.wf, IntKind.min, IntKind.max, IntKind.signed, IntKind.bits] at h
  exact h
theorem open_nums {H : Type} {enc : TypeId × Value → H} {w : World} {base : Nat} {spare : Nat → Bool} {held : Bool} {fuel : Nat} {cs : List Value} {x : DataW H × List MemPlace} {t e : TypeId} {k : IntKind} (ht : Try.prog.underlying t = some (.slice e)) (he : Try.prog.underlying e = some (.int k)) (h1 : Try.prog.cellsOf e = 1)
    (h : DataW.trod enc Try.prog w base spare held fuel t cs = some x) :
    ∃ A n c, cs = [.slice A n c] ∧ n ≤ 9223372036854775807 ∧ (n ≤ 140737488355328 → ∃ xs, Rd w k A n c xs) := by
  rcases open_slice1 ht h1 h with ⟨rfl, _⟩ | ⟨a, len, cap, m, n, V, D, Pl, rfl, _, hl, hm, hmm, _, hel⟩
  · exact ⟨none, 0, 0, rfl, by omega, fun _ => ⟨[], nil_rd _ _⟩⟩
  · refine ⟨some a, len, cap, rfl, by unfold maxLen at hm; omega, fun hle => ?_⟩
    have hlm : len ≤ m := by rw [hmm]; split <;> omega
    obtain ⟨F, hF⟩ := choose_lt (α := Int) (n := len) (p := fun i z => w.cell? (a.add i) = some (.int k z)) (fun i hi => by
      obtain ⟨h1, h2⟩ := hel i (by omega)
      obtain ⟨z, e, _, hw⟩ := DataW.trod_int he h2
      injection e with e _
      exact ⟨z, by rw [h1, e]⟩)
    refine ⟨(List.range len).map F, ⟨by simp, hle, (fun e => by cases e), fun hp => ⟨a, rfl, fun j hj => ?_⟩⟩⟩
    rw [hF j hj]
    simp [List.getD, hj]
theorem list7 {α : Type} {l : List α} (h : l.length = 7) : ∃ a b c d e f g, l = [a, b, c, d, e, f, g] := by
  match l, h with
  | [a, b, c, d, e, f, g], _ => exact ⟨a, b, c, d, e, f, g, rfl⟩
set_option maxRecDepth 100000 in
theorem open_act {H : Type} {enc : TypeId × Value → H} {w : World} {base : Nat} {spare : Nat → Bool} {held : Bool} {fuel : Nat} {cs : List Value} {x : DataW H × List MemPlace} (h : DataW.trod enc Try.prog w base spare held fuel 54 cs = some x) :
    ∃ a : AD, cs = a.vs.toList ∧ ADok w a := by
  obtain ⟨xs, n, _, _, hl, hxl, hf⟩ := DataW.trod_struct Try.underlying54 h
  rw [show Try.prog.cellsOf 54 = 7 from by kernel_rfl] at hl
  obtain ⟨v0, v1, v2, v3, v4, v5, v6, rfl⟩ := list7 hl
  obtain ⟨y0, y1, y2, y3, y4, y5, y6, rfl⟩ := list7 (show xs.length = 7 from hxl)
  have h0 : DataW.trod enc Try.prog w base spare held n 3 [v0] = some y0 := hf 0 _ rfl
  have h1 : DataW.trod enc Try.prog w base spare held n 3 [v1] = some y1 := hf 1 _ rfl
  have h2 : DataW.trod enc Try.prog w base spare held n 3 [v2] = some y2 := hf 2 _ rfl
  have h3 : DataW.trod enc Try.prog w base spare held n 9 [v3] = some y3 := hf 3 _ rfl
  have h4 : DataW.trod enc Try.prog w base spare held n 9 [v4] = some y4 := hf 4 _ rfl
  have h5 : DataW.trod enc Try.prog w base spare held n 26 [v5] = some y5 := hf 5 _ rfl
  have h6 : DataW.trod enc Try.prog w base spare held n 32 [v6] = some y6 := hf 6 _ rfl
  obtain ⟨a0, e0, _, g0⟩ := DataW.trod_int Try.underlying3 h0
  obtain ⟨a1, e1, _, g1⟩ := DataW.trod_int Try.underlying3 h1
  obtain ⟨a2, e2, _, g2⟩ := DataW.trod_int Try.underlying3 h2
  obtain ⟨a3, e3, _, g3⟩ := DataW.trod_string Try.underlying9 h3
  obtain ⟨a4, e4, _, g4⟩ := DataW.trod_string Try.underlying9 h4
  obtain ⟨A5, n5, c5, e5, g5, o5⟩ := open_nums Try.underlying26 Try.underlying5 (by kernel_rfl) h5
  obtain ⟨A6, n6, c6, e6, g6, o6⟩ := open_nums Try.underlying32 Try.underlying3 (by kernel_rfl) h6
  cases e0; cases e1; cases e2; cases e3; cases e4; cases e5; cases e6
  unfold maxLen at g3 g4
  exact ⟨⟨a0, a1, a2, a3, a4, A5, n5, c5, A6, n6, c6⟩, rfl, inI_wf g0, inI_wf g1, inI_wf g2, g3, g4, g5, g6, fun h => o5 (Nat.le_trans h (by decide)), fun h => o6 (Nat.le_trans h (by decide))⟩
theorem open_acts {H : Type} {enc : TypeId × Value → H} {w : World} {base : Nat} {spare : Nat → Bool} {held : Bool} {fuel : Nat} {cs : List Value} {x : DataW H × List MemPlace} (h : DataW.trod enc Try.prog w base spare held fuel 48 cs = some x) :
    ∃ A n c l, cs = [.slice A n c] ∧ Acts w A n c l := by
  rcases open_slice Try.underlying48 h with ⟨rfl, _⟩ | ⟨a, len, cap, m, n, D, Pl, rfl, _, hl, hm, hmm, _, hel⟩
  · exact ⟨none, 0, 0, [], rfl, rfl, by omega, fun _ => ⟨rfl, rfl⟩, fun h => absurd h (Nat.lt_irrefl 0), fun i hi => by omega⟩
  · have hlm : len ≤ m := by rw [hmm]; split <;> omega
    have h7 : Try.prog.cellsOf 54 = 7 := by kernel_rfl
    rw [h7] at hel
    obtain ⟨F, hF⟩ := choose_lt (α := AD) (n := len) (p := fun i p => (∀ j u, (p.vs)[j]? = some u → w.cell? (a.add (i * 7 + j)) = some u) ∧ ADok w p) (fun i hi => by
      obtain ⟨cs', h1, h2⟩ := hel i (by omega)
      obtain ⟨_, hlen, hcell⟩ := World.cells?_some h1
      obtain ⟨p, rfl, ho⟩ := open_act h2
      refine ⟨p, fun j u hu => ?_, ho⟩
      have hj : j < 7 := (Array.getElem?_eq_some_iff.1 hu).1
      have := hcell j hj
      rw [Go.Deep.add_add] at this
      rw [this, Array.getElem?_toList, hu])
    have hget : ∀ i, i < len → ((List.range len).map F).getD i adD = F i := fun i hi => by simp [List.getD, hi]
    refine ⟨some a, len, cap, (List.range len).map F, rfl, by simp, by unfold maxLen at hm; omega, (fun e => by cases e), fun hp => ?_, fun i hi => by rw [hget i hi]; exact (hF i hi).2⟩
    obtain ⟨b, off, rfl⟩ := addr_plain ((hF 0 hp).1 0 _ rfl)
    refine ⟨b, off, rfl, fun i hi j v hv => ?_⟩
    rw [hget i hi] at hv
    have := (hF i hi).1 j v hv
    rwa [Addr.add_lit, ← Nat.add_assoc] at this

/-! ### Big -/
def bigA (l : List AD) : Bool := l.any (fun a => decide (60 < a.P.size) || decide (60 < a.Q.size) || decide (300 < a.nb) || decide (40 < a.nl)) || decide (60 < l.length)
theorem bigA_true {l : List AD} {k : Nat} (hk : k < l.length) (h : 60 < (l.getD k adD).P.size ∨ 60 < (l.getD k adD).Q.size ∨ 300 < (l.getD k adD).nb ∨ 40 < (l.getD k adD).nl) : bigA l = true := by
  unfold bigA
  rw [Bool.or_eq_true, List.any_eq_true]
  refine .inl ⟨l.getD k adD, by simp [List.getD, hk], ?_⟩
  simp only [Bool.or_eq_true, decide_eq_true_eq]
  rcases h with h | h | h | h
  · exact .inl (.inl (.inl h))
  · exact .inl (.inl (.inr h))
  · exact .inl (.inr h)
  · exact .inr h
theorem bigA_end {l : List AD} (h : ∀ i, i < l.length → (l.getD i adD).P.size ≤ 60 ∧ (l.getD i adD).Q.size ≤ 60 ∧ (l.getD i adD).nb ≤ 300 ∧ (l.getD i adD).nl ≤ 40) : bigA l = decide (60 < l.length) := by
  unfold bigA
  have : (l.any fun a => decide (60 < a.P.size) || decide (60 < a.Q.size) || decide (300 < a.nb) || decide (40 < a.nl)) = false := by
    rw [List.any_eq_false]
    intro a ha
    obtain ⟨i, hi, rfl⟩ := List.getElem_of_mem ha
    have := h i hi
    rw [show l.getD i adD = l[i] by simp [List.getD, hi]] at this
    simp
    omega
  rw [this, Bool.false_or]
theorem bigA_false {l : List AD} (h : bigA l = false) : l.length ≤ 60 ∧ ∀ i, i < l.length → (l.getD i adD).P.size ≤ 60 ∧ (l.getD i adD).Q.size ≤ 60 ∧ (l.getD i adD).nb ≤ 300 ∧ (l.getD i adD).nl ≤ 40 := by
  have h0 := h
  unfold bigA at h
  rw [Bool.or_eq_false_iff] at h
  refine ⟨by simpa using h.2, fun i hi => ?_⟩
  refine Classical.byContradiction fun hn => ?_
  rw [bigA_true hi (by omega)] at h0
  cases h0
set_option maxHeartbeats 2000000 in
set_option maxRecDepth 100000 in
theorem big_any {w : World} {A : Option Addr} {n c : Nat} {l : List AD} (h : Acts w A n c l) :
    Calls Try.prog 24 #[.slice A n c] w fun e w' => e = .returned (.bool (bigA l)) ∧ w' = w := by
  have H := Kp.mk h
  have hmax := h.max
  have HLen := Kp.mk h.len
  clear h
  go_enter Try.func24, Try.ntmps24
  go_wp2_with fail
  go_loop [3] (fun i => ∃ k : Nat, i = .int .i64 (k : Nat) ∧ k ≤ n ∧ Kp (∀ i, i < k → (l.getD i adD).P.size ≤ 60 ∧ (l.getD i adD).Q.size ≤ 60 ∧ (l.getD i adD).nb ≤ 300 ∧ (l.getD i adD).nl ≤ 40)) (fun i => n - (intOf i).toNat)
  case atStart => exact ⟨0, rfl, Nat.zero_le _, ⟨fun i hi => by omega⟩⟩
  case round =>
    obtain ⟨k, rfl, hk, HA⟩ := hrel
    by_cases hkn : k < n
    · obtain ⟨b, off, rfl, hc⟩ := H.out.cell (by omega)
      have hok := H.out.ok k hkn
      have hz := hc k hkn
      obtain ⟨a, ha⟩ : ∃ a, a = l.getD k adD := ⟨_, rfl⟩
      rw [← ha] at hok hz
      have HAK := Kp.mk ha
      have m3 := hok.P
      have m4 := hok.Q
      have m5 := hok.nb
      have m6 := hok.nl
      obtain ⟨a0, a1, a2, P, Q, Ab, nb, cb, Al, nl, cl⟩ := a
      simp only at m3 m4 m5 m6
      have z3 : w.cell? ⟨b, off + k * 7 + 3, none⟩ = some (.string P) := hz 3 _ rfl
      have z4 : w.cell? ⟨b, off + k * 7 + 4, none⟩ = some (.string Q) := hz 4 _ rfl
      have z5 : w.cell? ⟨b, off + k * 7 + 5, none⟩ = some (.slice Ab nb cb) := hz 5 _ rfl
      have z6 : w.cell? ⟨b, off + k * 7 + 6, none⟩ = some (.slice Al nl cl) := hz 6 _ rfl
      have hkn' : ¬ n ≤ k := by omega
      have HT : Kp ((60 < P.size ∨ 60 < Q.size ∨ 300 < nb ∨ 40 < nl) → bigA l = true) := ⟨fun h => bigA_true (k := k) (by rw [HLen.out]; exact hkn) (by rw [← HAK.out]; exact h)⟩
      clear hc hz hok ha
      by_cases c1 : (60 : Int) < (P.size : Int)
      · go_wp2_with fail
        go_ret
        exact ⟨ret_bool (HT.out (.inl (by omega))).symm, rfl⟩
      by_cases c2 : (60 : Int) < (Q.size : Int)
      · go_wp2_with fail
        go_ret
        exact ⟨ret_bool (HT.out (.inr (.inl (by omega)))).symm, rfl⟩
      by_cases c3 : (300 : Int) < (nb : Int)
      · go_wp2_with fail
        go_ret
        exact ⟨ret_bool (HT.out (.inr (.inr (.inl (by omega))))).symm, rfl⟩
      by_cases c4 : (40 : Int) < (nl : Int)
      · go_wp2_with fail
        go_ret
        exact ⟨ret_bool (HT.out (.inr (.inr (.inr (by omega))))).symm, rfl⟩
      go_wp2_with fail
      go_round
      case rel =>
        refine ⟨k + 1, by go_num, by omega, ⟨fun i hi => ?_⟩⟩
        rcases Nat.lt_or_ge i k with g | g
        · exact HA.out i g
        · obtain rfl : k = i := by omega
          rw [← HAK.out]
          simp only
          omega
      case measure => simp [intOf]; omega
    · obtain rfl : n = k := by omega
      have HE : Kp (bigA l = decide ((60 : Int) < (n : Int))) := ⟨by rw [bigA_end (fun i hi => HA.out i (by rw [← HLen.out]; exact hi)), HLen.out]; exact decide_eq_decide.2 (by omega)⟩
      go_wp2_with fail
      go_ret
      exact ⟨ret_bool HE.out.symm, rfl⟩
end Go.Proofs.Ytgeklapphkgdkaa.Dsk
