import Derived.Test.YtgeklapphkgdkaaDsRu
import Derived.Test.YtgeklapphkgdkaaDsRn
import Derived.Test.YtgeklapphkgdkaaDskR
set_option linter.unusedVariables false
set_option linter.unusedSimpArgs false
namespace Go.Proofs.Ytgeklapphkgdkaa.Dsk
open Go.RowKit Go.Maps

/-! ### Rename in plain words -/
theorem posA_gone (nm : List UInt8) : ∀ {fs : AF}, Srt fs → hasA nm fs = true → posA nm (fs.take (posA nm fs) ++ fs.drop (posA nm fs + 1)) = posA nm fs ∧ hasA nm (fs.take (posA nm fs) ++ fs.drop (posA nm fs + 1)) = false
  | [], _, h => by simp [hasA] at h
  | y :: r, hs, h => by
    have hs' := List.pairwise_cons.1 hs
    by_cases hb : bytesBefore y.1 nm = true
    · have hp : posA nm (y :: r) = posA nm r + 1 := by show (if _ then _ else _) = _; rw [if_pos hb]
      have hh : hasA nm (y :: r) = hasA nm r := by
        unfold hasA
        rw [hp]
        simp
      rw [hh] at h
      have ih := posA_gone nm (fs := r) hs'.2 h
      rw [hp]
      simp only [List.take_succ_cons, List.drop_succ_cons, List.cons_append]
      have hq : ∀ l : AF, posA nm (y :: l) = posA nm l + 1 := fun l => by show (if _ then _ else _) = _; rw [if_pos hb]
      have hh2 : ∀ l : AF, hasA nm (y :: l) = hasA nm l := fun l => by
        unfold hasA
        rw [hq]
        simp
      rw [hq, hh2, ih.1, ih.2]
      exact ⟨rfl, rfl⟩
    · have hp : posA nm (y :: r) = 0 := by show (if _ then _ else _) = _; rw [if_neg hb]
      have he : y.1 = nm := by
        unfold hasA at h
        rw [hp] at h
        simpa using h
      rw [hp]
      simp only [List.take_zero, List.nil_append, List.drop_succ_cons, List.drop_zero]
      cases r with
      | nil => exact ⟨rfl, by simp [hasA]⟩
      | cons z s =>
        have hyz := hs'.1 z (by simp)
        have hnb : ¬ bytesBefore z.1 nm = true := by
          intro e
          rw [← he] at e
          have := before_trans hyz e
          rw [before_irrefl] at this
          cases this
        have hp2 : posA nm (z :: s) = 0 := by show (if _ then _ else _) = _; rw [if_neg hnb]
        have hne : z.1 ≠ nm := by
          intro e
          rw [he, ← e, before_irrefl] at hyz
          cases hyz
        refine ⟨hp2, ?_⟩
        unfold hasA
        rw [hp2]
        simpa using hne
theorem delA_comm (a b : List UInt8) (fs : AF) : delA a (delA b fs) = delA b (delA a fs) := by
  unfold delA
  rw [List.filter_filter, List.filter_filter]
  congr 1
  funext x
  exact Bool.and_comm _ _
def goneA (nm : List UInt8) (fs : AF) : AF := if hasA nm fs then fs.take (posA nm fs) ++ fs.drop (posA nm fs + 1) else fs
theorem goneA_eq (nm : List UInt8) {fs : AF} (hs : Srt fs) : delA nm fs = goneA nm fs := by
  unfold goneA
  cases h : hasA nm fs
  · rw [used_del_none nm fs (by rw [look_has nm hs, h]; rfl)]
    simp
  · rw [delA_pos nm hs h]
    simp
theorem goneA_pos (nm : List UInt8) {fs : AF} (hs : Srt fs) : posA nm (goneA nm fs) = posA nm fs ∧ hasA nm (goneA nm fs) = false := by
  unfold goneA
  cases h : hasA nm fs
  · simpa using h
  · simpa using posA_gone nm hs h
theorem goneA_srt (nm : List UInt8) {fs : AF} (hs : Srt fs) : Srt (goneA nm fs) := by
  unfold goneA
  cases h : hasA nm fs
  · simpa using hs
  · simpa using srt_gone hs _
/-- What the reference's Rename tells. -/
theorem rename_eq {σ : DS} (fr tn : ByteArray) (hs : Srt σ.files) : σ.rename fr tn =
    if σ.down.1 then (11, σ.down.2) else if nameOk fr && nameOk tn then
      (if hasA fr.data.toList σ.files then (if fr = tn then (0, σ.down.2) else
          (0, { σ.down.2 with files := (goneA tn.data.toList (goneA fr.data.toList σ.files)).take (posA tn.data.toList (goneA fr.data.toList σ.files)) ++ (tn.data.toList, (σ.files.getD (posA fr.data.toList σ.files) afD).2) :: (goneA tn.data.toList (goneA fr.data.toList σ.files)).drop (posA tn.data.toList (goneA fr.data.toList σ.files)) }))
      else (8, σ.down.2)) else (6, σ.down.2) := by
  obtain ⟨hd, hrm⟩ := down_files σ
  unfold DS.rename
  rw [begin_down]
  cases h1 : σ.down.1
  · cases h2 : nameOk fr && nameOk tn
    · simp
    · simp only [Bool.false_eq_true, if_false, if_true]
      rw [hd, look_has _ hs]
      cases h3 : hasA fr.data.toList σ.files
      · simp
      · simp only [if_true]
        by_cases hft : fr = tn
        · rw [if_pos hft, if_pos hft]
        · rw [if_neg hft, if_neg hft, delA_comm, goneA_eq _ hs, goneA_eq _ (goneA_srt _ hs), insA_pos _ _ (goneA_srt _ (goneA_srt _ hs)) (goneA_pos _ (goneA_srt _ hs)).2, (goneA_pos _ (goneA_srt _ hs)).1]
  · simp
end Go.Proofs.Ytgeklapphkgdkaa.Dsk
