import Derived.Test.YtgeklapphkgdkaaDskL
set_option linter.unusedVariables false
set_option linter.unusedSimpArgs false
namespace Go.Proofs.Ytgeklapphkgdkaa.Dsk
open Go.RowKit Go.Maps

theorem Dk.below {w w' : World} {B g : Nat} {σ : DS} (h : Dk w B g σ) (hb : Below w.heap.size w w') : Dk w' B g σ :=
  IsDisk.mono (IsDisk.below h hb) (fun k hk hs => ⟨hs.1, hk⟩)
theorem Dk.append {w : World} {B g : Nat} {σ : DS} {nm : ByteArray} {Ab : Option Addr} {m cb : Nat} {b : List Int} (h : Dk w B g σ) (hs : nm.size ≤ 100000) (hroom : 0 ≤ σ.room ∧ σ.room ≤ 9223372036854775807) (hBw : B ≤ w.heap.size)
    (hb : Rd w .u8 Ab m cb b) (hbS : ∀ ad, Ab = some ad → 0 < m → ad.block < B) :
    Calls Try.prog 11 #[.pointer (some ⟨g, 0, none⟩), .string nm, .slice Ab m cb] w fun e w' => e = .returned (.int .i64 (σ.append nm b).1) ∧ Dk w' B g (σ.append nm b).2 ∧ Below B w w' := by
  refine (append_any w B g σ _ nm Ab m cb b h hs hroom hBw hb (fun ad e hm hh => by have := hbS ad e hm; have := hh.1; omega)).mono ?_
  rintro e w' ⟨he, hp⟩
  exact ⟨he, Dk.next (fun k h => h.1) hBw hp, hp.2.toBelow (fun k h => h.1) hBw⟩
theorem Dk.new (w : World) (room : Int) : Calls Try.prog 10 #[.int .i64 room] w fun e w' => ∃ g, e = .returned (.pointer (some ⟨g, 0, none⟩)) ∧ Dk w' w.heap.size g ⟨max 0 room, [], [], 0⟩ ∧ Below w.heap.size w w' := by
  refine (new_at w room).mono ?_
  rintro e w' ⟨rfl, hd, hb, hs⟩
  exact ⟨_, rfl, hd.mono (fun k hk h => ⟨h.1, hk⟩), hb⟩
theorem Rd.nil0 (w : World) (k : IntKind) : Rd w k none 0 0 [] := ⟨rfl, by omega, fun _ => ⟨rfl, rfl⟩, fun h => absurd h (by omega)⟩
theorem Rd.lt {w : World} {k : IntKind} {A : Option Addr} {n c : Nat} {xs : List Int} (h : Rd w k A n c xs) : ∀ ad, A = some ad → 0 < n → ad.block < w.heap.size := by
  intro ad e hn
  obtain ⟨ad', e', hc⟩ := h.cell hn
  rw [e] at e'; cases e'
  have := World.block_lt_of_cell? w _ (hc 0 hn)
  unfold Addr.add at this
  split at this <;> exact this

/-! ### The law 'DiskFails': what stands behind k rounds -/
def rep (l b : List Int) : Nat → List Int
  | 0 => []
  | k + 1 => if l.getD k 0 = 0 then rep l b k ++ b else rep l b k
def cnt (l : List Int) : Nat → Nat
  | 0 => 0
  | k + 1 => if l.getD k 0 = 0 then cnt l k else cnt l k + 1
theorem rep_le (l b : List Int) : ∀ k, (rep l b k).length ≤ k * b.length
  | 0 => by simp [rep]
  | k + 1 => by
    have := rep_le l b k
    have e : (k + 1) * b.length = k * b.length + b.length := by rw [Nat.add_mul, Nat.one_mul]
    unfold rep
    split <;> simp <;> omega
theorem cnt_le (l : List Int) : ∀ k, cnt l k ≤ k
  | 0 => by simp [cnt]
  | k + 1 => by
    have := cnt_le l k
    unfold cnt
    split <;> omega
def stF (l b : List Int) (k : Nat) : DS := ⟨10000, [([102], rep l b k, 0)], l.drop k, cnt l k⟩
theorem okF : nameOk ⟨#[102]⟩ = true := by rfl
theorem stF_step (l b : List Int) (k : Nat) (hk : k < 40) (hb : b.length ≤ 20) :
    (stF l b k).append ⟨#[102]⟩ b = (if l.getD k 0 = 0 then 0 else 11, stF l b (k + 1)) := by
  have hr := rep_le l b k
  have hc := cnt_le l k
  have hr2 : k * b.length ≤ 39 * 20 := Nat.mul_le_mul (by omega) hb
  have hbeg : (stF l b k).begin (nameOk ⟨#[102]⟩) = (if l.getD k 0 = 0 then 0 else 11, { stF l b k with fails := l.drop (k + 1), failed := cnt l (k + 1) }) := by
    rw [okF]
    by_cases hkl : k < l.length
    · unfold DS.begin stF
      simp only
      rw [List.drop_eq_getElem_cons hkl]
      simp only
      have hg : l.getD k 0 = l[k] := by simp [List.getD, hkl]
      by_cases h0 : l[k] = 0
      · rw [if_pos h0, hg, if_pos h0]
        simp only [cnt, hg, h0, if_true]
      · rw [if_neg h0, hg, if_neg h0]
        simp only [cnt, hg, if_neg h0]
        congr 2
        unfold wrap64
        have := Int.natCast_add (cnt l k) 1
        omega
    · have hg : l.getD k 0 = 0 := by simp [List.getD, List.getElem?_eq_none (show l.length ≤ k by omega)]
      unfold DS.begin stF
      simp only
      rw [List.drop_eq_nil_of_le (by omega), List.drop_eq_nil_of_le (by omega), hg]
      simp only [cnt, hg, if_true]
  by_cases h0 : l.getD k 0 = 0
  · rw [h0] at hbeg ⊢
    simp only [if_true] at hbeg ⊢
    rw [append_some b hbeg (f := (rep l b k, 0)) (by rfl)]
    simp only
    rw [if_neg (by omega), if_neg (by simp only [stF, used]; omega)]
    simp only [stF, rep, h0, if_true]
    rfl
  · rw [if_neg h0] at hbeg ⊢
    rw [append_err b hbeg (by omega)]
    simp only [stF, rep, if_neg h0]
theorem stF_zero (l b : List Int) : (⟨max 0 10000, [], [], 0⟩ : DS).append ⟨#[102]⟩ [] = (0, ⟨10000, [([102], [], 0)], [], 0⟩) := by rfl
end Go.Proofs.Ytgeklapphkgdkaa.Dsk
