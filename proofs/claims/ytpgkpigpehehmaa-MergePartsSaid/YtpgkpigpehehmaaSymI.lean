import Derived.Test.YtpgkpigpehehmaaSymH
import Derived.Sort.LotA
set_option linter.unusedVariables false
set_option linter.unusedSimpArgs false
namespace Go.Proofs.Ytpgkpigpehehmaa.Bas
open Go.RowKit Go.Maps Go.Sort Go.Shelf Go.Lib

/-! ### The order of keys -/
structure Cm {β : Type} (c : β → β → Int) : Prop where
  anti : ∀ x y, c y x = - c x y
  trans : ∀ x y z, c x y ≤ 0 → c y z ≤ 0 → c x z ≤ 0
  zero : ∀ x y, c x y = 0 → x = y
theorem Cm.same {β : Type} {c : β → β → Int} (h : Cm c) (x : β) : c x x = 0 := by
  have := h.anti x x
  omega
theorem cmpN_cm : Cm cmpN := by
  refine ⟨fun x y => ?_, fun x y z h1 h2 => ?_, fun x y h => ?_⟩
  · unfold cmpN
    repeat' split
    all_goals omega
  · unfold cmpN at *
    repeat' split
    all_goals first | omega | (split at h1 <;> split at h2 <;> simp_all <;> omega)
  · unfold cmpN at h
    split at h
    · omega
    · split at h <;> omega
theorem cm_rev {β : Type} {c : β → β → Int} (h : Cm c) : Cm (fun x y => c y x) :=
  ⟨fun x y => h.anti y x, fun x y z h1 h2 => h.trans z y x h2 h1, fun x y e => (h.zero y x e).symm⟩
def or2 (a b : Int) : Int := if a ≠ 0 then a else b
theorem or3_or2 (a b c : Int) : or3 a b c = or2 a (or2 b c) := rfl
theorem cm_pair {β γ : Type} {c : β → β → Int} {d : γ → γ → Int} (h : Cm c) (k : Cm d) : Cm (fun x y : β × γ => or2 (c x.1 y.1) (d x.2 y.2)) := by
  refine ⟨fun x y => ?_, fun x y z h1 h2 => ?_, fun x y e => ?_⟩
  · have e1 := h.anti x.1 y.1
    have e2 := k.anti x.2 y.2
    simp only [or2]
    by_cases h0 : c x.1 y.1 = 0
    · rw [if_neg (by omega), if_neg (by omega)]; exact e2
    · rw [if_pos (by omega), if_pos h0]; exact e1
  · simp only [or2] at *
    by_cases a1 : c x.1 y.1 = 0
    · rw [if_neg (by omega)] at h1
      have e := h.zero _ _ a1
      rw [e]
      by_cases a2 : c y.1 z.1 = 0
      · rw [if_neg (by omega)] at h2 ⊢
        exact k.trans _ _ _ h1 h2
      · rw [if_pos a2] at h2 ⊢
        exact h2
    · rw [if_pos a1] at h1
      by_cases a2 : c y.1 z.1 = 0
      · have e := h.zero _ _ a2
        rw [← e, if_pos a1]
        exact h1
      · rw [if_pos a2] at h2
        have t := h.trans _ _ _ h1 h2
        by_cases a3 : c x.1 z.1 = 0
        · exfalso
          have e := h.zero _ _ a3
          have := h.anti x.1 y.1
          rw [← e] at h2 a2
          omega
        · rw [if_pos a3]; exact t
  · simp only [or2] at e
    by_cases a1 : c x.1 y.1 = 0
    · rw [if_neg (by omega)] at e
      exact Prod.ext (h.zero _ _ a1) (k.zero _ _ e)
    · rw [if_pos a1] at e
      exact absurd e a1
theorem bytes_cm : Cm Lib.compareBytes := by
  have lt_iff : ∀ a b : UInt8, a < b ↔ a.toNat < b.toNat := fun a b => UInt8.lt_iff_toNat_lt
  refine ⟨?_, ?_, ?_⟩
  · intro x
    induction x with
    | nil => intro y; cases y <;> rfl
    | cons a r ih =>
      intro y
      cases y with
      | nil => rfl
      | cons b s =>
        simp only [Lib.compareBytes, lt_iff]
        have := ih s
        repeat' split
        all_goals omega
  · intro x
    induction x with
    | nil =>
      intro y z h1 h2
      cases y with
      | nil => exact h2
      | cons b s =>
        cases z with
        | nil => simp [Lib.compareBytes] at h2
        | cons c t => simp [Lib.compareBytes]
    | cons a r ih =>
      intro y z h1 h2
      cases y with
      | nil => simp [Lib.compareBytes] at h1
      | cons b s =>
        cases z with
        | nil => simp [Lib.compareBytes] at h2
        | cons c t =>
          have := ih s t
          simp only [Lib.compareBytes, lt_iff] at *
          repeat' split at h1
          all_goals (repeat' split at h2)
          all_goals (repeat' split)
          all_goals first | omega | (apply this <;> omega)
  · intro x
    induction x with
    | nil => intro y h; cases y with | nil => rfl | cons b s => simp [Lib.compareBytes] at h
    | cons a r ih =>
      intro y h
      cases y with
      | nil => simp [Lib.compareBytes] at h
      | cons b s =>
        simp only [Lib.compareBytes, lt_iff] at h
        split at h
        · omega
        · split at h
          · omega
          · rw [ih s h]
            have : a.toNat = b.toNat := by omega
            rw [UInt8.toNat_inj.1 this]
theorem key_cm : Cm (fun x y : List UInt8 × Int × Int => or2 (Lib.compareBytes x.1 y.1) (or2 (cmpN y.2.1 x.2.1) (cmpN y.2.2 x.2.2))) :=
  cm_pair bytes_cm (cm_pair (cm_rev cmpN_cm) (cm_rev cmpN_cm))
def embK (k : Ky) : List UInt8 × Int × Int := (Lib.bytesOf k.key, k.seq, k.kind)
theorem keyCmp_emb (a b : Ky) : keyCmp a b = (fun x y : List UInt8 × Int × Int => or2 (Lib.compareBytes x.1 y.1) (or2 (cmpN y.2.1 x.2.1) (cmpN y.2.2 x.2.2))) (embK a) (embK b) := rfl
theorem keyCmp_anti (a b : Ky) : keyCmp b a = - keyCmp a b := by rw [keyCmp_emb, keyCmp_emb]; exact key_cm.anti _ _
theorem keyCmp_trans (a b c : Ky) (h1 : keyCmp a b ≤ 0) (h2 : keyCmp b c ≤ 0) : keyCmp a c ≤ 0 := by rw [keyCmp_emb] at *; exact key_cm.trans _ _ _ h1 h2
theorem swo_of {α : Type} {cf : α → α → Int} (ha : ∀ x y, cf y x = - cf x y) (ht : ∀ x y z, cf x y ≤ 0 → cf y z ≤ 0 → cf x z ≤ 0) : SWO (ltOf cf) := by
  refine ⟨fun x => ?_, fun x y z h1 h2 => ?_, fun x y z h1 h2 => ?_⟩
  · have := ha x x
    exact decide_eq_false (by omega)
  · have h1 := of_decide_eq_true h1
    have h2 := of_decide_eq_true h2
    refine decide_eq_true ?_
    have t := ht x y z (by omega) (by omega)
    by_cases h : cf x z = 0
    · exfalso
      have := ht z x y (by have := ha x z; omega) (by omega)
      have := ha y z
      omega
    · omega
  · have h1 := of_decide_eq_false h1
    have h2 := of_decide_eq_false h2
    refine decide_eq_false ?_
    have a1 := ha x y
    have a2 := ha y z
    have a3 := ha x z
    have := ht z y x (by omega) (by omega)
    omega
theorem swo_key {w0 : World} : SWO (ltOf (cfC (w0 := w0))) := swo_of (fun x y => keyCmp_anti _ _) (fun x y z => keyCmp_trans _ _ _)
theorem nt_of {α : Type} {lt : α → α → Bool} (h : SWO lt) : NT lt := fun a b c h1 h2 => h.ntrans c b a h2 h1
end Go.Proofs.Ytpgkpigpehehmaa.Bas
