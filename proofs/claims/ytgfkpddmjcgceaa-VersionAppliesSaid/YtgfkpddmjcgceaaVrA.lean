import Derived.Test.YtgfkpddmjcgceaaKaB
import Derived.Test.YtgfkpddmjcgceaaKaC
set_option linter.unusedVariables false
set_option linter.unusedSimpArgs false
namespace Go.Proofs.Ytgfkpddmjcgceaa.Kx
open Go.RowKit Go.Maps Go.Proofs.YtgfkpddmjcgceaaW.PrintWords

/-! #### struct type 42 -/
structure Rn where
  file : Int
  bytes : Int
  count : Int
  first : (List Int)
  last : (List Int)
  seq : Int
def zRn : Rn := ⟨(0 : Int), (0 : Int), (0 : Int), ([] : List Int), ([] : List Int), (0 : Int)⟩
def kRn : Kd Rn := Kd.iso (Kd.pair (Kd.int .i64) (Kd.pair (Kd.int .i64) (Kd.pair (Kd.int .i64) (Kd.pair (Kd.slice 5 (Kd.int .u8)) (Kd.pair (Kd.slice 5 (Kd.int .u8)) (Kd.int .u64)))))) (fun x : Rn => (x.file, x.bytes, x.count, x.first, x.last, x.seq))
theorem kRn_open {w : World} {x : Rn} {cs : List Value} (h : kRn.K w x cs) : ∃ A3 c3 A4 c4, cs = [.int .i64 x.file, .int .i64 x.bytes, .int .i64 x.count, .slice A3 x.first.length c3, .slice A4 x.last.length c4, .int .u64 x.seq] ∧ x.first.length ≤ c3 ∧ (Kd.int .u8).C w A3 x.first.length x.first ∧ x.last.length ≤ c4 ∧ (Kd.int .u8).C w A4 x.last.length x.last := by
  obtain ⟨_, _, rfl, rfl, ⟨_, _, rfl, rfl, ⟨_, _, rfl, rfl, ⟨_, _, rfl, ⟨A3, c3, rfl, l3, g3⟩, ⟨_, _, rfl, ⟨A4, c4, rfl, l4, g4⟩, rfl⟩⟩⟩⟩⟩ := h
  exact ⟨A3, c3, A4, c4, rfl, l3, g3, l4, g4⟩
theorem kRn_openM {w : World} {base : Nat} {ok : Nat → Prop} {x : Rn} {cs : List Value} (h : kRn.M w base ok x cs) : ∃ v3 v4, cs = [.int .i64 x.file, .int .i64 x.bytes, .int .i64 x.count, v3, v4, .int .u64 x.seq] ∧ (Kd.int .u8).R 5 w base ok v3 x.first ∧ (Kd.int .u8).R 5 w base ok v4 x.last := by
  obtain ⟨_, _, rfl, rfl, ⟨_, _, rfl, rfl, ⟨_, _, rfl, rfl, ⟨_, _, rfl, ⟨v3, rfl, g3⟩, ⟨_, _, rfl, ⟨v4, rfl, g4⟩, rfl⟩⟩⟩⟩⟩ := h
  exact ⟨v3, v4, rfl, g3, g4⟩
theorem kRn_mk (w : World) (x : Rn) {A3 : Option Addr} {c3 : Nat} (l3 : x.first.length ≤ c3) (g3 : (Kd.int .u8).C w A3 x.first.length x.first) {A4 : Option Addr} {c4 : Nat} (l4 : x.last.length ≤ c4) (g4 : (Kd.int .u8).C w A4 x.last.length x.last) : kRn.K w x [.int .i64 x.file, .int .i64 x.bytes, .int .i64 x.count, .slice A3 x.first.length c3, .slice A4 x.last.length c4, .int .u64 x.seq] := ⟨[.int .i64 x.file], [.int .i64 x.bytes, .int .i64 x.count, .slice A3 x.first.length c3, .slice A4 x.last.length c4, .int .u64 x.seq], rfl, rfl, ⟨[.int .i64 x.bytes], [.int .i64 x.count, .slice A3 x.first.length c3, .slice A4 x.last.length c4, .int .u64 x.seq], rfl, rfl, ⟨[.int .i64 x.count], [.slice A3 x.first.length c3, .slice A4 x.last.length c4, .int .u64 x.seq], rfl, rfl, ⟨[.slice A3 x.first.length c3], [.slice A4 x.last.length c4, .int .u64 x.seq], rfl, ⟨A3, c3, rfl, l3, g3⟩, ⟨[.slice A4 x.last.length c4], [.int .u64 x.seq], rfl, ⟨A4, c4, rfl, l4, g4⟩, rfl⟩⟩⟩⟩⟩
theorem kRn_mkM (w : World) (base : Nat) (ok : Nat → Prop) (x : Rn) {v3 : Value} (g3 : (Kd.int .u8).R 5 w base ok v3 x.first) {v4 : Value} (g4 : (Kd.int .u8).R 5 w base ok v4 x.last) : kRn.M w base ok x [.int .i64 x.file, .int .i64 x.bytes, .int .i64 x.count, v3, v4, .int .u64 x.seq] := ⟨[.int .i64 x.file], [.int .i64 x.bytes, .int .i64 x.count, v3, v4, .int .u64 x.seq], rfl, rfl, ⟨[.int .i64 x.bytes], [.int .i64 x.count, v3, v4, .int .u64 x.seq], rfl, rfl, ⟨[.int .i64 x.count], [v3, v4, .int .u64 x.seq], rfl, rfl, ⟨[v3], [v4, .int .u64 x.seq], rfl, ⟨v3, rfl, g3⟩, ⟨[v4], [.int .u64 x.seq], rfl, ⟨v4, rfl, g4⟩, rfl⟩⟩⟩⟩⟩
def rd_Rn (xs : List Rn) (i : Int) : Rn := xs.getD i.toNat zRn
theorem at_Rn {w : World} {A : Option Addr} {n : Nat} {xs : List Rn} (h : Kd.C kRn w A n xs) (i : Int) (h0 : 0 ≤ i) (h1 : i < n) : ∃ ad A3 c3 A4 c4, A = some ad ∧ w.cell? (ad.add (i.toNat * 6)) = some (.int .i64 (rd_Rn xs i).file) ∧ w.cell? ⟨(ad.add (i.toNat * 6)).block, (ad.add (i.toNat * 6)).off + 1, none⟩ = some (.int .i64 (rd_Rn xs i).bytes) ∧ w.cell? ⟨(ad.add (i.toNat * 6)).block, (ad.add (i.toNat * 6)).off + 2, none⟩ = some (.int .i64 (rd_Rn xs i).count) ∧ w.cell? ⟨(ad.add (i.toNat * 6)).block, (ad.add (i.toNat * 6)).off + 3, none⟩ = some (.slice A3 (rd_Rn xs i).first.length c3) ∧ w.cell? ⟨(ad.add (i.toNat * 6)).block, (ad.add (i.toNat * 6)).off + 4, none⟩ = some (.slice A4 (rd_Rn xs i).last.length c4) ∧ w.cell? ⟨(ad.add (i.toNat * 6)).block, (ad.add (i.toNat * 6)).off + 5, none⟩ = some (.int .u64 (rd_Rn xs i).seq) ∧ (rd_Rn xs i).first.length ≤ c3 ∧ (Kd.int .u8).C w A3 (rd_Rn xs i).first.length (rd_Rn xs i).first ∧ (rd_Rn xs i).last.length ≤ c4 ∧ (Kd.int .u8).C w A4 (rd_Rn xs i).last.length (rd_Rn xs i).last := by
  obtain ⟨ad, c, e, _, hK, hc0⟩ := Kd.C_get h zRn i h0 h1
  have hc : ∀ j u, c[j]? = some u → w.cell? (ad.add (i.toNat * 6 + j)) = some u := hc0
  obtain ⟨A3, c3, A4, c4, rfl, l3, g3, l4, g4⟩ := kRn_open hK
  exact ⟨ad, A3, c3, A4, c4, e, hc 0 _ rfl, by rw [← add_field _ _ 1 (by omega)]; exact hc 1 _ rfl, by rw [← add_field _ _ 2 (by omega)]; exact hc 2 _ rfl, by rw [← add_field _ _ 3 (by omega)]; exact hc 3 _ rfl, by rw [← add_field _ _ 4 (by omega)]; exact hc 4 _ rfl, by rw [← add_field _ _ 5 (by omega)]; exact hc 5 _ rfl, l3, g3, l4, g4⟩

theorem rn_at {w : World} {A : Option Addr} {n : Nat} {xs : List Rn} (h : Kd.C kRn w A n xs) (i : Nat) (hi : i < n) : ∃ ad A3 c3 A4 c4, A = some ad ∧ w.cell? (ad.add (i * 6)) = some (.int .i64 (xs.getD i zRn).file) ∧ w.cell? ⟨(ad.add (i * 6)).block, (ad.add (i * 6)).off + 1, none⟩ = some (.int .i64 (xs.getD i zRn).bytes) ∧ w.cell? ⟨(ad.add (i * 6)).block, (ad.add (i * 6)).off + 2, none⟩ = some (.int .i64 (xs.getD i zRn).count) ∧ w.cell? ⟨(ad.add (i * 6)).block, (ad.add (i * 6)).off + 3, none⟩ = some (.slice A3 (xs.getD i zRn).first.length c3) ∧ w.cell? ⟨(ad.add (i * 6)).block, (ad.add (i * 6)).off + 4, none⟩ = some (.slice A4 (xs.getD i zRn).last.length c4) ∧ w.cell? ⟨(ad.add (i * 6)).block, (ad.add (i * 6)).off + 5, none⟩ = some (.int .u64 (xs.getD i zRn).seq) ∧ (xs.getD i zRn).first.length ≤ c3 ∧ By w A3 (xs.getD i zRn).first ∧ (xs.getD i zRn).last.length ≤ c4 ∧ By w A4 (xs.getD i zRn).last :=
  at_Rn h (i : Int) (by omega) (by omega)
/-- May a run be? -/
def rnOk (r : Rn) : Prop := 1 ≤ r.file ∧ r.file ≤ 1099511627776 ∧ 1 ≤ r.bytes ∧ 1 ≤ r.count ∧ r.bytes ≤ 16777216 ∧ r.count ≤ 16777216 ∧ 1 ≤ r.first.length ∧ 1 ≤ r.last.length ∧ r.first.length ≤ 256 ∧ r.last.length ≤ 256 ∧ cmpI r.first r.last ≤ 0 ∧ 1 ≤ r.seq ∧ r.seq ≤ 72057594037927935
instance (r : Rn) : Decidable (rnOk r) := by unfold rnOk; infer_instance
end Go.Proofs.Ytgfkpddmjcgceaa.Kx
