import Derived.Test.YtgfkpddmjcgceaaProg
import Derived.Test.YtgfkpddmjcgceaaWWords
import Derived.WalkSmall
import Derived.WalkSpells
import Derived.Maps.OwnSet
import Derived.Maps.OwnOps
import Derived.Maps.RangeWalk
import Derived.BigRegion
import Derived.Laws.AppendOwnNone
import Derived.Lib.Hide
import Derived.Lib.SlBytesConst
import Derived.Lib.Bytealg
import Derived.Lib.BytesEntry
import Derived.Laws.Externs
import Derived.Deep.RegionWith
import Derived.Handy
import Derived.Sort.Grow
set_option linter.unusedVariables false
set_option linter.unusedSimpArgs false
namespace Go.Proofs.Ytgfkpddmjcgceaa.Kx
open Go.RowKit Go.Maps Go.Proofs.YtgfkpddmjcgceaaW.PrintWords

theorem ret_bool {a b : Bool} (h : a = b) : Ending.returned (.bool a) = .returned (.bool b) := by rw [h]
theorem ret_int {k : IntKind} {a b : Int} (h : a = b) : Ending.returned (.int k a) = .returned (.int k b) := by rw [h]
/-- A fact that the walk does not see. -/
structure Kp (p : Prop) : Prop where mk :: (out : p)
theorem max2_int (k : IntKind) (x y : Int) : Builtin.max2 (.int k x) (.int k y) = pure (.int k (max x y)) := by
  simp only [Builtin.max2]
  congr 2
  rw [Int.max_def]; split <;> split <;> omega
theorem min2_int (k : IntKind) (x y : Int) : Builtin.min2 (.int k x) (.int k y) = pure (.int k (min x y)) := by
  simp only [Builtin.min2]
  congr 2
  rw [Int.min_def]; split <;> split <;> omega
theorem max_two (ats : Array TypeId) (ty : TypeId) (a b : Value) : Builtin.max_ ats ty #[a, b] = (Builtin.max2 a b >>= fun s => pure s) := by simp only [Builtin.max_, List.foldlM_cons, List.foldlM_nil]
theorem min_two (ats : Array TypeId) (ty : TypeId) (a b : Value) : Builtin.min_ ats ty #[a, b] = (Builtin.min2 a b >>= fun s => pure s) := by simp only [Builtin.min_, List.foldlM_cons, List.foldlM_nil]

/-- A slice of bytes that is read. -/
abbrev By (w : World) (A : Option Addr) (xs : List Int) : Prop := (Kd.int .u8).C w A xs.length xs
theorem C_len {α : Type} {d : Kd α} {w : World} {A : Option Addr} {n : Nat} {xs : List α} (h : d.C w A n xs) : xs.length = n ∧ n ≤ 9223372036854775807 := ⟨h.1, h.2.1⟩
theorem ints_at {k : IntKind} {w : World} {A : Option Addr} {n : Nat} {xs : List Int} (h : (Kd.int k).C w A n xs) (i : Nat) (hi : i < n) : ∃ ad, A = some ad ∧ w.cell? (ad.add i) = some (.int k (xs.getD i 0)) := by
  obtain ⟨ad, e, hc⟩ := Kd.at_int h (i : Int) (by omega) (by omega)
  exact ⟨ad, e, hc⟩
theorem ints_nil {k : IntKind} {w : World} {n : Nat} {xs : List Int} (h : (Kd.int k).C w none n xs) : n = 0 ∧ xs = [] := by
  have hn : n = 0 := by
    rcases Nat.eq_zero_or_pos n with h0 | h0
    · exact h0
    · obtain ⟨ad, e, _⟩ := ints_at h 0 h0
      cases e
  exact ⟨hn, List.eq_nil_of_length_eq_zero ((C_len h).1.trans hn)⟩
theorem run_bytesOf_C {P : Program} {w : World} {A : Option Addr} {n c : Nat} {xs : List Int} (h : (Kd.int .u8).C w A n xs) : (Extern.Bytes.bytesOf (.slice A n c)).run P w = .ok ⟨(Lib.bytesOf xs).toArray⟩ w := by
  cases A with
  | none =>
    obtain ⟨rfl, rfl⟩ := ints_nil h
    rfl
  | some a =>
    have hl := Lib.run_loadBytesX (P := P) w xs a .empty (fun j x hj => by
      have hjl : j < xs.length := (List.getElem?_eq_some_iff.1 hj).1
      obtain ⟨ad, e, hc⟩ := ints_at h j (by have := (C_len h).1; omega)
      cases e
      rw [hc, List.getD_eq_getElem?_getD, hj]
      rfl)
    rw [(C_len h).1] at hl
    have he : (⟨ByteArray.empty.data ++ (Lib.bytesOf xs).toArray⟩ : ByteArray) = ⟨(Lib.bytesOf xs).toArray⟩ := by
      apply ByteArray.ext
      show (#[] : Array UInt8) ++ (Lib.bytesOf xs).toArray = (Lib.bytesOf xs).toArray
      simp
    rw [he] at hl
    exact hl
/-- How two rows of bytes stand. -/
def cmpI (xs ys : List Int) : Int := Lib.compareBytes (Lib.bytesOf xs) (Lib.bytesOf ys)
theorem run_compare_C {P : Program} {w : World} {A A' : Option Addr} {n c n' c' : Nat} {xs ys : List Int} (h : (Kd.int .u8).C w A n xs) (h' : (Kd.int .u8).C w A' n' ys) :
    (Extern.BytealgCompare.compare #[.slice A n c, .slice A' n' c']).run P w = .ok (.int .i64 (cmpI xs ys)) w := by
  change Sem.run P (do pure (goInt (Extern.BytealgCompare.cmp (← Extern.Bytes.bytesOf (.slice A n c)) (← Extern.Bytes.bytesOf (.slice A' n' c'))))) w = _
  simp only [Sem.run_bind, Sem.run_pure, run_bytesOf_C h, run_bytesOf_C h', Result.andThen]
  rw [Lib.cmp_eq]
  rfl
def Byt (xs : List Int) : Prop := ∀ x ∈ xs, 0 ≤ x ∧ x ≤ 255
theorem u8_lt {x y : Int} (hx : 0 ≤ x ∧ x ≤ 255) (hy : 0 ≤ y ∧ y ≤ 255) : UInt8.ofNat x.toNat < UInt8.ofNat y.toNat ↔ x < y := by
  rw [UInt8.lt_iff_toNat_lt]
  simp only [UInt8.toNat_ofNat']
  omega
theorem cmpI_nil : cmpI [] [] = 0 := rfl
theorem cmpI_nil_cons (y : Int) (ys : List Int) : cmpI [] (y :: ys) = -1 := rfl
theorem cmpI_cons_nil (x : Int) (xs : List Int) : cmpI (x :: xs) [] = 1 := rfl
theorem cmpI_cons {x y : Int} (xs ys : List Int) (hx : 0 ≤ x ∧ x ≤ 255) (hy : 0 ≤ y ∧ y ≤ 255) : cmpI (x :: xs) (y :: ys) = if x < y then -1 else if y < x then 1 else cmpI xs ys := by
  unfold cmpI Lib.bytesOf
  rw [List.map_cons, List.map_cons, Lib.compareBytes]
  simp only [u8_lt hx hy, u8_lt hy hx]
theorem byt_getD {xs : List Int} (h : Byt xs) (k : Nat) : 0 ≤ xs.getD k 0 ∧ xs.getD k 0 ≤ 255 := by
  by_cases hk : k < xs.length
  · have : xs.getD k 0 = xs[k] := by simp [List.getD, hk]
    rw [this]
    exact h _ (List.getElem_mem hk)
  · have : xs.getD k 0 = 0 := by simp [List.getD, List.getElem?_eq_none (show xs.length ≤ k by omega)]
    omega
theorem drop_getD {xs : List Int} {k : Nat} (hk : k < xs.length) : xs.drop k = xs.getD k 0 :: xs.drop (k + 1) := by
  rw [List.drop_eq_getElem_cons hk]
  simp [List.getD, hk]
theorem cmpI_step {xs ys : List Int} (hx : Byt xs) (hy : Byt ys) {k : Nat} (h1 : k < xs.length) (h2 : k < ys.length) :
    cmpI (xs.drop k) (ys.drop k) = if xs.getD k 0 < ys.getD k 0 then -1 else if ys.getD k 0 < xs.getD k 0 then 1 else cmpI (xs.drop (k + 1)) (ys.drop (k + 1)) := by
  rw [drop_getD h1, drop_getD h2, cmpI_cons _ _ (byt_getD hx k) (byt_getD hy k)]
theorem cmpI_end {xs ys : List Int} {k : Nat} (hk1 : k ≤ xs.length) (hk2 : k ≤ ys.length) (h : k = xs.length ∨ k = ys.length) :
    cmpI (xs.drop k) (ys.drop k) = if xs.length < ys.length then -1 else if ys.length < xs.length then 1 else 0 := by
  rcases Nat.lt_trichotomy xs.length ys.length with h3 | h3 | h3
  · have : k = xs.length := by omega
    subst this
    rw [if_pos h3, List.drop_length, drop_getD h3]; rfl
  · have h4 : k = xs.length := by omega
    rw [if_neg (by omega), if_neg (by omega), h4, List.drop_length, h3, List.drop_length]; rfl
  · have : k = ys.length := by omega
    subst this
    rw [if_neg (by omega), if_pos h3, List.drop_length, drop_getD h3]; rfl
end Go.Proofs.Ytgfkpddmjcgceaa.Kx
