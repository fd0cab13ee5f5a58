import Derived.Test.YtpgkpigpehehmaaMrgZb
import Derived.Deep.Slices
import Derived.Carry
set_option linter.unusedVariables false
set_option linter.unusedSimpArgs false
namespace Go.Proofs.Ytpgkpigpehehmaa.Bas
open Go.RowKit Go.Maps Go.Deep

theorem byt_wf {n : Int} (h : (Lit.int .u8 n).wf = true) : 0 ≤ n ∧ n ≤ 255 := by
  simp [Lit.wf, IntKind.min, IntKind.max, IntKind.signed, IntKind.bits] at h; omega
/-- Bytes that came in. -/
theorem open_bytes {H : Type} {enc : TypeId × Value → H} {w : World} {base : Nat} {spare : Nat → Bool} {held : Bool} {fuel : Nat} {cs : List Value} {x : DataW H × List MemPlace} (h : DataW.trod enc Try.prog w base spare held fuel 35 cs = some x) :
    ∃ A n c, cs = [.slice A n c] ∧ (n ≤ 140737488355328 → ∃ xs, Rd w .u8 A n c xs ∧ Byt xs) := by
  rcases open_slice1 Try.underlying35 (by kernel_rfl) h with ⟨rfl, _⟩ | ⟨a, len, cap, m, n, V, D, Pl, rfl, _, hl, hm, hmm, _, hel⟩
  · exact ⟨none, 0, 0, rfl, fun _ => ⟨[], Rd.nil0 _ _, fun x hx => by cases hx⟩⟩
  · refine ⟨some a, len, cap, rfl, fun hle => ?_⟩
    have hlm : len ≤ m := by rw [hmm]; split <;> omega
    obtain ⟨F, hF⟩ := choose_lt (α := Int) (n := len) (p := fun i z => w.cell? (a.add i) = some (.int .u8 z) ∧ (Lit.int .u8 z).wf = true) (fun i hi => by
      obtain ⟨h1, h2⟩ := hel i (by omega)
      obtain ⟨z, e, _, hw⟩ := DataW.trod_int Try.underlying5 h2
      injection e with e _
      exact ⟨z, by rw [h1, e], hw⟩)
    refine ⟨(List.range len).map F, ⟨by simp, hle, (fun e => by cases e), fun hp => ⟨a, rfl, fun j hj => ?_⟩⟩, fun y hy => ?_⟩
    · rw [(hF j hj).1]
      simp [List.getD, hj]
    · obtain ⟨i, hi, rfl⟩ := List.mem_map.1 hy
      exact byt_wf (hF i (List.mem_range.1 hi)).2
theorem list2 {α : Type} {l : List α} (h : l.length = 2) : ∃ a b, l = [a, b] := by
  match l, h with
  | [a, b], _ => exact ⟨a, b, rfl⟩
theorem list3 {α : Type} {l : List α} (h : l.length = 3) : ∃ a b c, l = [a, b, c] := by
  match l, h with
  | [a, b, c], _ => exact ⟨a, b, c, rfl⟩
theorem list4 {α : Type} {l : List α} (h : l.length = 4) : ∃ a b c d, l = [a, b, c, d] := by
  match l, h with
  | [a, b, c, d], _ => exact ⟨a, b, c, d, rfl⟩
/-- An entry that came in. -/
theorem open_entry {H : Type} {enc : TypeId × Value → H} {w : World} {base : Nat} {spare : Nat → Bool} {held : Bool} {fuel : Nat} {cs : List Value} {x : DataW H × List MemPlace} (h : DataW.trod enc Try.prog w base spare held fuel 40 cs = some x) :
    ∃ A n c s k A' n' c', cs = [.slice A n c, .int .u64 s, .int .i64 k, .slice A' n' c'] ∧ (n ≤ 300 → n' ≤ 300 → ∃ e : En, EnC w #[.slice A n c, .int .u64 s, .int .i64 k, .slice A' n' c'] e ∧ e.k.key.length = n ∧ e.val.length = n') := by
  obtain ⟨xs, n, _, _, hl, hxl, hf⟩ := DataW.trod_struct Try.underlying40 h
  rw [show Try.prog.cellsOf 40 = 4 from by kernel_rfl] at hl
  obtain ⟨v0, v1, v2, v3, rfl⟩ := list4 hl
  obtain ⟨y0, y1, rfl⟩ := list2 (show xs.length = 2 from hxl)
  have h0 : DataW.trod enc Try.prog w base spare held n 38 [v0, v1, v2] = some y0 := hf 0 _ rfl
  have h1 : DataW.trod enc Try.prog w base spare held n 35 [v3] = some y1 := hf 1 _ rfl
  obtain ⟨zs, m, _, _, hl2, hzl, hg⟩ := DataW.trod_struct Try.underlying38 h0
  obtain ⟨z0, z1, z2, rfl⟩ := list3 (show zs.length = 3 from hzl)
  have k0 : DataW.trod enc Try.prog w base spare held m 35 [v0] = some z0 := hg 0 _ rfl
  have k1 : DataW.trod enc Try.prog w base spare held m 36 [v1] = some z1 := hg 1 _ rfl
  have k2 : DataW.trod enc Try.prog w base spare held m 3 [v2] = some z2 := hg 2 _ rfl
  obtain ⟨A, n0, c, e0, o0⟩ := open_bytes k0
  obtain ⟨a1, e1, _⟩ := DataW.trod_int Try.underlying36 k1
  obtain ⟨a2, e2, _⟩ := DataW.trod_int Try.underlying3 k2
  obtain ⟨A', n1, c', e3, o3⟩ := open_bytes h1
  cases e0; cases e1; cases e2; cases e3
  refine ⟨A, n0, c, a1, a2, A', n1, c', rfl, fun q0 q1 => ?_⟩
  obtain ⟨xs, r0, b0⟩ := o0 (by omega)
  obtain ⟨ys, r1, b1⟩ := o3 (by omega)
  exact ⟨⟨⟨xs, a1, a2⟩, ys⟩, ⟨A, n0, c, A', n1, c', rfl, r0, b0, r1, b1⟩, r0.len, r1.len⟩
end Go.Proofs.Ytpgkpigpehehmaa.Bas
