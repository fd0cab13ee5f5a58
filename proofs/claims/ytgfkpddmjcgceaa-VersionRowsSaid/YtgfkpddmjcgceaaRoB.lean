import Derived.Test.YtgfkpddmjcgceaaRoA
set_option linter.unusedVariables false
set_option linter.unusedSimpArgs false
namespace Go.Proofs.Ytgfkpddmjcgceaa.Kx
open Go.RowKit Go.Maps Go.Deep Go.Proofs.YtgfkpddmjcgceaaW.PrintWords

def zEd : Ed := ⟨[], [], 0, 0, 0⟩
instance : Inhabited Ed := ⟨zEd⟩
def kEd : Kd Ed := Kd.iso (Kd.pair (Kd.slice 42 kRn) (Kd.pair (Kd.slice 3 (Kd.int .i64)) (Kd.pair (Kd.int .i64) (Kd.pair (Kd.int .i64) (Kd.int .u64))))) (fun x : Ed => (x.add, x.drop, x.nx, x.lg, x.sq))
theorem kEd_open {w : World} {x : Ed} {cs : List Value} (h : kEd.K w x cs) : EdK w x cs := by
  obtain ⟨_, _, rfl, ⟨A, c, rfl, l0, g0⟩, ⟨_, _, rfl, ⟨A', c', rfl, l1, g1⟩, ⟨_, _, rfl, rfl, ⟨_, _, rfl, rfl, rfl⟩⟩⟩⟩ := h
  exact ⟨A, A', c, c', rfl, l0, g0, l1, g1⟩
theorem kEd_mk {w : World} {x : Ed} {cs : List Value} (h : EdK w x cs) : kEd.K w x cs := by
  obtain ⟨A, A', c, c', rfl, l0, g0, l1, g1⟩ := h
  exact ⟨[.slice A x.add.length c], [.slice A' x.drop.length c', .int .i64 x.nx, .int .i64 x.lg, .int .u64 x.sq], rfl, ⟨A, c, rfl, l0, g0⟩, [.slice A' x.drop.length c'], [.int .i64 x.nx, .int .i64 x.lg, .int .u64 x.sq], rfl, ⟨A', c', rfl, l1, g1⟩, [.int .i64 x.nx], [.int .i64 x.lg, .int .u64 x.sq], rfl, rfl, [.int .i64 x.lg], [.int .u64 x.sq], rfl, rfl, rfl⟩
theorem opens_edit : Opens Try.prog kEd 31 EdIn := ⟨fun h => by
  obtain ⟨e, h1, h2⟩ := open_edit h
  exact ⟨e, kEd_mk h1, h2⟩⟩
theorem opens_edits : Opens Try.prog (Kd.slice 31 kEd) 22 (fun l => ∀ e, e ∈ l → EdIn e) := opens_slice Try.underlying22 (by kernel_rfl) opens_edit
/-- An edit's cells in the list. -/
theorem ed_at {w : World} {A : Option Addr} {n : Nat} {l : List Ed} (h : kEd.C w A n l) (i : Nat) (hi : i < n) : ∃ ad A1 A2 c1 c2, A = some ad ∧ w.cell? (ad.add (i * 5)) = some (.slice A1 (l.getD i zEd).add.length c1) ∧ w.cell? ⟨(ad.add (i * 5)).block, (ad.add (i * 5)).off + 1, none⟩ = some (.slice A2 (l.getD i zEd).drop.length c2) ∧ w.cell? ⟨(ad.add (i * 5)).block, (ad.add (i * 5)).off + 2, none⟩ = some (.int .i64 (l.getD i zEd).nx) ∧ w.cell? ⟨(ad.add (i * 5)).block, (ad.add (i * 5)).off + 3, none⟩ = some (.int .i64 (l.getD i zEd).lg) ∧ w.cell? ⟨(ad.add (i * 5)).block, (ad.add (i * 5)).off + 4, none⟩ = some (.int .u64 (l.getD i zEd).sq) ∧ kRn.C w A1 (l.getD i zEd).add.length (l.getD i zEd).add ∧ (l.getD i zEd).drop.length ≤ c2 ∧ (Kd.int .i64).C w A2 (l.getD i zEd).drop.length (l.getD i zEd).drop := by
  obtain ⟨ad, c, e, _, hK, hc0⟩ := Kd.C_get h zEd (i : Int) (by omega) (by omega)
  have hc : ∀ j u, c[j]? = some u → w.cell? (ad.add (i * 5 + j)) = some u := hc0
  obtain ⟨A1, A2, c1, c2, rfl, l1, g1, l2, g2⟩ := kEd_open hK
  exact ⟨ad, A1, A2, c1, c2, e, hc 0 _ rfl, by rw [← add_field _ _ 1 (by omega)]; exact hc 1 _ rfl, by rw [← add_field _ _ 2 (by omega)]; exact hc 2 _ rfl, by rw [← add_field _ _ 3 (by omega)]; exact hc 3 _ rfl, by rw [← add_field _ _ 4 (by omega)]; exact hc 4 _ rfl, g1, l2, g2⟩
end Go.Proofs.Ytgfkpddmjcgceaa.Kx
