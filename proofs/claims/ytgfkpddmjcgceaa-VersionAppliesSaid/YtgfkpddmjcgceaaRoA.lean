import Derived.Test.YtgfkpddmjcgceaaVrH
import Derived.Deep.Slices
import Derived.Carry
set_option linter.unusedVariables false
set_option linter.unusedSimpArgs false
namespace Go.Proofs.Ytgfkpddmjcgceaa.Kx
open Go.RowKit Go.Maps Go.Deep Go.Proofs.YtgfkpddmjcgceaaW.PrintWords

/-- What is read of a type's cells is of the kind d, and ok. -/
structure Opens {α : Type} (P : Program) (d : Kd α) (t : TypeId) (ok : α → Prop) : Prop where
  out : ∀ {H : Type} {enc : TypeId × Value → H} {w : World} {base : Nat} {spare : Nat → Bool} {held : Bool} {fuel : Nat} {cs : List Value} {x : DataW H × List MemPlace}, DataW.trod enc P w base spare held fuel t cs = some x → ∃ a, d.K w a cs ∧ ok a
section
variable {P : Program}
theorem opens_int {t : TypeId} {k : IntKind} (ht : P.underlying t = some (.int k)) : Opens P (Kd.int k) t (fun n => (Lit.int k n).wf = true) := ⟨fun h => by
  obtain ⟨n, rfl, _, hw⟩ := DataW.trod_int ht h
  exact ⟨n, rfl, hw⟩⟩
theorem opens_slice {α : Type} [Inhabited α] {d : Kd α} {t e : TypeId} {ok : α → Prop} (ht : P.underlying t = some (.slice e)) (hc : P.cellsOf e = d.sz) (h : Opens P d e ok) : Opens P (Kd.slice e d) t (fun xs => ∀ x, x ∈ xs → ok x) := ⟨fun hx => by
  rcases open_slice ht hx with ⟨rfl, _⟩ | ⟨a, len, cap, m, n, D, Pl, rfl, _, hl, hm, hmm, _, hel⟩
  · exact ⟨[], ⟨none, 0, rfl, Nat.le_refl _, Kd.C_nil _ _⟩, fun x hx => by cases hx⟩
  · have hlm : len ≤ m := by rw [hmm]; split <;> omega
    obtain ⟨F, hF⟩ := choose_lt (α := α) (n := len) (p := fun i a0 => ok a0 ∧ ∃ cs', cs'.length = d.sz ∧ d.K _ a0 cs' ∧ ∀ j u, cs'[j]? = some u → (_ : World).cell? (a.add (i * d.sz + j)) = some u) (fun i hi => by
      obtain ⟨cs', h1, h2⟩ := hel i (by omega)
      obtain ⟨a0, hK, hok⟩ := h.out h2
      obtain ⟨_, hlen, hcell⟩ := World.cells?_some h1
      rw [hc] at hlen hcell
      refine ⟨a0, hok, cs', hlen, hK, fun j u hu => ?_⟩
      have hj : j < d.sz := by rw [← hlen]; exact (List.getElem?_eq_some_iff.1 hu).1
      have := hcell j hj
      rw [Go.Deep.add_add] at this
      rw [this, hu])
    refine ⟨(List.range len).map F, ⟨some a, cap, by simp, by simpa using hl, by simp, by unfold maxLen at hm; simp; omega, fun _ => ⟨a, rfl, fun j p hj => ?_⟩⟩, fun x hx => ?_⟩
    · have hjl : j < len := by
        have := (List.getElem?_eq_some_iff.1 hj).1
        simpa using this
      have hp : F j = p := by simpa [hjl] using hj
      subst hp
      exact (hF j hjl).2
    · obtain ⟨i, hi, rfl⟩ := List.mem_map.1 hx
      exact (hF i (List.mem_range.1 hi)).1⟩
end
theorem byt_wf {n : Int} (h : (Lit.int .u8 n).wf = true) : 0 ≤ n ∧ n ≤ 255 := by
  simp [Lit.wf, IntKind.min, IntKind.max, IntKind.signed, IntKind.bits] at h; omega
theorem u64_wf {n : Int} (h : (Lit.int .u64 n).wf = true) : 0 ≤ n ∧ n ≤ 18446744073709551615 := by
  simp [Lit.wf, IntKind.min, IntKind.max, IntKind.signed, IntKind.bits] at h; omega
instance : Inhabited Rn := ⟨zRn⟩
/-- What is known of a run that came in. -/
def RnIn (r : Rn) : Prop := Byt r.first ∧ Byt r.last ∧ 0 ≤ r.seq
theorem opens_u8 : Opens Try.prog (Kd.int .u8) 5 (fun n => 0 ≤ n ∧ n ≤ 255) := ⟨fun h => by
  obtain ⟨a, h1, h2⟩ := (opens_int Try.underlying5).out h
  exact ⟨a, h1, byt_wf h2⟩⟩
theorem opens_bytes : Opens Try.prog (Kd.slice 5 (Kd.int .u8)) 40 Byt := opens_slice Try.underlying40 (by kernel_rfl) opens_u8
theorem opens_ints : Opens Try.prog (Kd.slice 3 (Kd.int .i64)) 29 (fun _ => True) := ⟨fun h => by
  obtain ⟨a, h1, _⟩ := (opens_slice Try.underlying29 (by kernel_rfl) (opens_int Try.underlying3)).out h
  exact ⟨a, h1, trivial⟩⟩
theorem list6 {α : Type} {l : List α} (h : l.length = 6) : ∃ a b c d e f, l = [a, b, c, d, e, f] := by
  match l, h with
  | [a, b, c, d, e, f], _ => exact ⟨a, b, c, d, e, f, rfl⟩
theorem list5 {α : Type} {l : List α} (h : l.length = 5) : ∃ a b c d e, l = [a, b, c, d, e] := by
  match l, h with
  | [a, b, c, d, e], _ => exact ⟨a, b, c, d, e, rfl⟩
theorem list4 {α : Type} {l : List α} (h : l.length = 4) : ∃ a b c d, l = [a, b, c, d] := by
  match l, h with
  | [a, b, c, d], _ => exact ⟨a, b, c, d, rfl⟩
theorem opens_run : Opens Try.prog kRn 42 RnIn := ⟨fun {H enc w base spare held fuel cs x} h => by
  obtain ⟨xs, n, _, _, hl, hxl, hf⟩ := DataW.trod_struct Try.underlying42 h
  rw [show Try.prog.cellsOf 42 = 6 from by kernel_rfl] at hl
  obtain ⟨v0, v1, v2, v3, v4, v5, rfl⟩ := list6 hl
  obtain ⟨y0, y1, y2, y3, y4, y5, rfl⟩ := list6 (show xs.length = 6 from hxl)
  have h0 : DataW.trod enc Try.prog w base spare held n 3 [v0] = some y0 := hf 0 _ rfl
  have h1 : DataW.trod enc Try.prog w base spare held n 3 [v1] = some y1 := hf 1 _ rfl
  have h2 : DataW.trod enc Try.prog w base spare held n 3 [v2] = some y2 := hf 2 _ rfl
  have h3 : DataW.trod enc Try.prog w base spare held n 40 [v3] = some y3 := hf 3 _ rfl
  have h4 : DataW.trod enc Try.prog w base spare held n 40 [v4] = some y4 := hf 4 _ rfl
  have h5 : DataW.trod enc Try.prog w base spare held n 25 [v5] = some y5 := hf 5 _ rfl
  obtain ⟨a0, e0, _⟩ := (opens_int Try.underlying3).out h0
  obtain ⟨a1, e1, _⟩ := (opens_int Try.underlying3).out h1
  obtain ⟨a2, e2, _⟩ := (opens_int Try.underlying3).out h2
  obtain ⟨a3, ⟨A3, c3, e3, l3, g3⟩, o3⟩ := opens_bytes.out h3
  obtain ⟨a4, ⟨A4, c4, e4, l4, g4⟩, o4⟩ := opens_bytes.out h4
  obtain ⟨a5, e5, o5⟩ := (opens_int Try.underlying25).out h5
  cases e0; cases e1; cases e2; cases e3; cases e4; cases e5
  exact ⟨⟨a0, a1, a2, a3, a4, a5⟩, kRn_mk w ⟨a0, a1, a2, a3, a4, a5⟩ l3 g3 l4 g4, o3, o4, (u64_wf o5).1⟩⟩
theorem opens_runs : Opens Try.prog (Kd.slice 42 kRn) 24 (fun rs => ∀ r, r ∈ rs → RnIn r) := opens_slice Try.underlying24 (by kernel_rfl) opens_run
/-- A version that came in. -/
theorem open_version {H : Type} {enc : TypeId × Value → H} {w : World} {base : Nat} {spare : Nat → Bool} {held : Bool} {fuel : Nat} {cs : List Value} {x : DataW H × List MemPlace} (h : DataW.trod enc Try.prog w base spare held fuel 27 cs = some x) :
    ∃ (A : Option Addr) (c : Nat) (rs : List Rn) (nx lg sq : Int), cs = [.slice A rs.length c, .int .i64 nx, .int .i64 lg, .int .u64 sq] ∧ rs.length ≤ c ∧ kRn.C w A rs.length rs ∧ (∀ r, r ∈ rs → RnIn r) ∧ 0 ≤ sq := by
  obtain ⟨xs, n, _, _, hl, hxl, hf⟩ := DataW.trod_struct Try.underlying27 h
  rw [show Try.prog.cellsOf 27 = 4 from by kernel_rfl] at hl
  obtain ⟨v0, v1, v2, v3, rfl⟩ := list4 hl
  obtain ⟨y0, y1, y2, y3, rfl⟩ := list4 (show xs.length = 4 from hxl)
  have h0 : DataW.trod enc Try.prog w base spare held n 24 [v0] = some y0 := hf 0 _ rfl
  have h1 : DataW.trod enc Try.prog w base spare held n 3 [v1] = some y1 := hf 1 _ rfl
  have h2 : DataW.trod enc Try.prog w base spare held n 3 [v2] = some y2 := hf 2 _ rfl
  have h3 : DataW.trod enc Try.prog w base spare held n 25 [v3] = some y3 := hf 3 _ rfl
  obtain ⟨rs, ⟨A, c, e0, l0, g0⟩, o0⟩ := opens_runs.out h0
  obtain ⟨a1, e1, _⟩ := (opens_int Try.underlying3).out h1
  obtain ⟨a2, e2, _⟩ := (opens_int Try.underlying3).out h2
  obtain ⟨a3, e3, o3⟩ := (opens_int Try.underlying25).out h3
  cases e0; cases e1; cases e2; cases e3
  exact ⟨A, c, rs, a1, a2, a3, rfl, l0, g0, o0, (u64_wf o3).1⟩
structure Ed where
  add : List Rn
  drop : List Int
  nx : Int
  lg : Int
  sq : Int
/-- The cells of an edit that is read. -/
def EdK (w : World) (e : Ed) (cs : List Value) : Prop := ∃ (A A' : Option Addr) (c c' : Nat), cs = [.slice A e.add.length c, .slice A' e.drop.length c', .int .i64 e.nx, .int .i64 e.lg, .int .u64 e.sq] ∧ e.add.length ≤ c ∧ kRn.C w A e.add.length e.add ∧ e.drop.length ≤ c' ∧ (Kd.int .i64).C w A' e.drop.length e.drop
def EdIn (e : Ed) : Prop := (∀ r, r ∈ e.add → RnIn r) ∧ 0 ≤ e.sq
theorem open_edit {H : Type} {enc : TypeId × Value → H} {w : World} {base : Nat} {spare : Nat → Bool} {held : Bool} {fuel : Nat} {cs : List Value} {x : DataW H × List MemPlace} (h : DataW.trod enc Try.prog w base spare held fuel 31 cs = some x) :
    ∃ e : Ed, EdK w e cs ∧ EdIn e := by
  obtain ⟨xs, n, _, _, hl, hxl, hf⟩ := DataW.trod_struct Try.underlying31 h
  rw [show Try.prog.cellsOf 31 = 5 from by kernel_rfl] at hl
  obtain ⟨v0, v1, v2, v3, v4, rfl⟩ := list5 hl
  obtain ⟨y0, y1, y2, y3, y4, rfl⟩ := list5 (show xs.length = 5 from hxl)
  have h0 : DataW.trod enc Try.prog w base spare held n 24 [v0] = some y0 := hf 0 _ rfl
  have h1 : DataW.trod enc Try.prog w base spare held n 29 [v1] = some y1 := hf 1 _ rfl
  have h2 : DataW.trod enc Try.prog w base spare held n 3 [v2] = some y2 := hf 2 _ rfl
  have h3 : DataW.trod enc Try.prog w base spare held n 3 [v3] = some y3 := hf 3 _ rfl
  have h4 : DataW.trod enc Try.prog w base spare held n 25 [v4] = some y4 := hf 4 _ rfl
  obtain ⟨rs, ⟨A, c, e0, l0, g0⟩, o0⟩ := opens_runs.out h0
  obtain ⟨ds, ⟨A', c', e1, l1, g1⟩, _⟩ := opens_ints.out h1
  obtain ⟨a2, e2, _⟩ := (opens_int Try.underlying3).out h2
  obtain ⟨a3, e3, _⟩ := (opens_int Try.underlying3).out h3
  obtain ⟨a4, e4, o4⟩ := (opens_int Try.underlying25).out h4
  cases e0; cases e1; cases e2; cases e3; cases e4
  exact ⟨⟨rs, ds, a2, a3, a4⟩, ⟨A, A', c, c', rfl, l0, g0, l1, g1⟩, o0, (u64_wf o4).1⟩
theorem agg_of {v : Value} {a b : Value} {cs : List Value} (h : v.cells.toList = a :: b :: cs) : v = .agg (a :: b :: cs).toArray := by
  cases v <;> simp [Value.cells] at h
  rename_i l
  rw [← h]
theorem laidOut : laidOutB Try.prog = true := by kernel_rfl
end Go.Proofs.Ytgfkpddmjcgceaa.Kx
