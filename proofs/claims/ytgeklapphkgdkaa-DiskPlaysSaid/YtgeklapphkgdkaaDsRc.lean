import Derived.Test.YtgeklapphkgdkaaDsRb
set_option linter.unusedVariables false
set_option linter.unusedSimpArgs false
namespace Go.Proofs.Ytgeklapphkgdkaa.Dsk
open Go.RowKit Go.Maps

/-! ### The reference's disk: down, Used, Failed -/
theorem fr_setg (w : World) (g i : Nat) (v : Value) : Fr w (w.setCell ⟨g, i, none⟩ v) (fun k => k = g) := (Fr.refl w (fun k => k = g)).setCell (a := ⟨g, i, none⟩) (.inl rfl) v
theorem RD.gv {w : World} {B g : Nat} {σ : DS} {S : Nat → Prop} {room : Int} {v : Value} {A : Option Addr} {c : Nat} {ps : List PF} (h : RD w B g σ S room v A c ps) : v.ownBlock ≠ some g := fun e => (h.vS g e).2 rfl
/-- The top of a disk is another one. -/
theorem RD.retop {w W : World} {B g : Nat} {σ : DS} {S : Nat → Prop} {room : Int} {v : Value} {A A' : Option Addr} {c c' : Nat} {ps : List PF} {fails : List Int} {failed : Int} (h : RD w B g σ S room v A c ps) (hf : Fr w W (fun k => k = g))
    (ht : W.heap[g]? = some (.cells #[.int .i64 room, v, .slice A' fails.length c', .int .i64 failed] 75 (0, 0))) (hr : Rd W .i64 A' fails.length c' fails) (hc : fails.length ≤ c') (hfar : ∀ ad, A' = some ad → 0 < fails.length → S ad.block ∧ ad.block ≠ g ∧ v.ownBlock ≠ some ad.block) :
    RD W B g { σ with fails := fails, failed := failed } S room v A' c' ps :=
  ⟨h.abs, ht, rrow_heap h.own (fun k hk => hf.block k (rrow_lt h.own k hk) (h.vS k hk).2), fun p hp => (h.file p hp).kept hf (fun A n c hm hn => (h.far p hp A n c hm hn).2.1), h.far, hr, hc, hfar, h.gB, h.gS, h.vS, h.room, h.srt, h.most⟩
/-- What down tells. -/
def DownP (B g : Nat) (σ : DS) (S : Nat → Prop) (room : Int) (v : Value) (ps : List PF) (w : World) (e : Ending) (w' : World) : Prop :=
  e = .returned (.bool σ.down.1) ∧ Fr w w' (fun k => k = g) ∧ ∃ A' c', RD w' B g σ.down.2 S room v A' c' ps
/-- A cell is told only where the address has no part. -/
theorem addr_plain {w : World} {a : Addr} {v : Value} (h : w.cell? (a.add 0) = some v) : ∃ b off, a = ⟨b, off, none⟩ := by
  obtain ⟨b, off, s⟩ := a
  cases s with
  | none => exact ⟨b, off, rfl⟩
  | some z =>
    exfalso
    have e : (⟨b, off, some z⟩ : Addr).add 0 = ⟨b, off, some z⟩ := rfl
    rw [e] at h
    unfold World.cell? at h
    split at h
    · simp at h
    · cases h
set_option maxHeartbeats 2000000 in
set_option maxRecDepth 100000 in
theorem r_down {w : World} {B g : Nat} {σ : DS} {S : Nat → Prop} {room : Int} {v : Value} {A : Option Addr} {c : Nat} {ps : List PF} (h : RD w B g σ S room v A c ps) : Calls Try.prog 52 #[.pointer (some ⟨g, 0, none⟩)] w (DownP B g σ S room v ps w) := by
  have c2 := cells_top h.top 2 (.slice A σ.fails.length c) rfl
  have c3 := cells_top h.top 3 (.int .i64 σ.failed) rfl
  have f2 := free_top h.top 2
  have f3 := free_top h.top 3
  have H := Kp.mk h
  have hfc := h.fcap
  obtain ⟨fl, hfl⟩ : ∃ fl, fl = σ.fails := ⟨_, rfl⟩
  have hrd := h.fails
  have hfm := hrd.max
  rw [← hfl] at c2 hrd hfc hfm
  have HFl := Kp.mk hfl
  clear h hfl
  cases fl with
  | nil =>
    have HD : Kp (σ.down = (false, σ)) := ⟨by unfold DS.down; rw [← HFl.out]⟩
    clear hrd
    go_enter Try.func52, Try.ntmps52
    go_wp2_with fail
    go_ret
    exact ⟨ret_bool (by rw [HD.out]), Fr.refl w _, A, c, by rw [HD.out]; exact H.out⟩
  | cons x r =>
    obtain ⟨ad, hAd, hcd⟩ := hrd.cell (by simp)
    have q0 := hcd 0 (by simp)
    obtain ⟨qb, qo, hq⟩ := addr_plain q0
    subst hq
    subst hAd
    rw [Addr.add_lit, Nat.add_zero] at q0
    have q0' : w.cell? ⟨qb, qo, none⟩ = some (.int .i64 x) := q0
    obtain ⟨A', hif, hr', hblk⟩ := rd_from hrd hfc (a := 1) (by simp)
    have hr'' : Rd w .i64 A' r.length (c - 1) r := by simpa using hr'
    have hrc : r.length ≤ c - 1 := by simp at hfc; omega
    have hfar' : ∀ ad, A' = some ad → 0 < r.length → S ad.block ∧ ad.block ≠ g ∧ v.ownBlock ≠ some ad.block := fun ad e _ => by
      obtain ⟨ad0, e0, hb⟩ := hblk ad e
      have := H.out.ffar ad0 e0 (by rw [← HFl.out]; simp)
      rw [hb] at this
      exact this
    have HR := Kp.mk hr''
    have HF := Kp.mk hfar'
    have HRc := Kp.mk hrc
    have hc1 : 1 ≤ c := by simp at hfc; omega
    have hc1' : (1 : Int) ≤ (c : Int) := by omega
    have hlen : (x :: r).length = r.length + 1 := rfl
    rw [hlen] at c2
    have hl1 : ((r.length + 1 : Nat) : Int) = (r.length : Int) + 1 := by omega
    have hA' : A' = if c = 1 then some ⟨qb, qo, none⟩ else some ⟨qb, qo + 1, none⟩ := by
      rw [← hif]
      split <;> rfl
    clear hrd hr' hr'' hfar' hblk hrc hcd q0 hif
    have key : ∀ (b : Bool) (σ' : DS), σ.down = (b, σ') → σ' = { σ with fails := r, failed := σ'.failed } → ∀ W, Fr w W (fun k => k = g) → W.heap[g]? = some (.cells #[.int .i64 room, v, .slice A' r.length (c - 1), .int .i64 σ'.failed] 75 (0, 0)) → ∃ A' c', RD W B g σ.down.2 S room v A' c' ps := by
      intro b σ' hd hσ W hf ht
      refine ⟨A', c - 1, ?_⟩
      rw [hd]
      show RD W B g σ' S room v A' (c - 1) ps
      rw [hσ]
      exact H.out.retop hf ht (HR.out.kept hf (fun ad e hn => (HF.out ad e hn).2.1)) HRc.out HF.out
    have HKey := Kp.mk key
    clear key
    by_cases hx : x = 0
    · have HD : Kp (σ.down = (false, { σ with fails := r })) := ⟨by unfold DS.down; rw [← HFl.out]; simp [hx]⟩
      have b1 : (x != 0) = false := by simp [hx]
      have b2 : (x == 0) = true := by simp [hx]
      clear hx
      by_cases hc1e : c = 1
      · rw [if_pos hc1e] at hA'
        subst hA' hc1e
        go_enter Try.func52, Try.ntmps52
        go_wp2_with fail
        go_ret
        exact ⟨ret_bool (by rw [HD.out]), fr_setg _ _ _ _, HKey.out _ _ HD.out rfl _ (fr_setg _ _ _ _) (heap_setCell_same _ _ 2 _ _ _ H.out.top)⟩
      · rw [if_neg hc1e] at hA'
        subst hA'
        go_enter Try.func52, Try.ntmps52
        go_wp2_with fail
        go_ret
        exact ⟨ret_bool (by rw [HD.out]), fr_setg _ _ _ _, HKey.out _ _ HD.out rfl _ (fr_setg _ _ _ _) (heap_setCell_same _ _ 2 _ _ _ H.out.top)⟩
    · have HD : Kp (σ.down = (true, { σ with fails := r, failed := wrap64 (σ.failed + 1) })) := ⟨by unfold DS.down; rw [← HFl.out]; simp [hx]⟩
      have b1 : (x != 0) = true := by simp [hx]
      have b2 : (x == 0) = false := by simp [hx]
      clear hx
      by_cases hc1e : c = 1
      · rw [if_pos hc1e] at hA'
        subst hA' hc1e
        go_enter Try.func52, Try.ntmps52
        go_wp2_with fail
        go_ret
        exact ⟨ret_bool (by rw [HD.out]), (fr_setg _ _ _ _).setCell (.inl rfl) _, HKey.out _ _ HD.out rfl _ ((fr_setg _ _ _ _).setCell (.inl rfl) _) (heap_setCell_same _ _ 3 _ _ _ (heap_setCell_same _ _ 2 _ _ _ H.out.top))⟩
      · rw [if_neg hc1e] at hA'
        subst hA'
        go_enter Try.func52, Try.ntmps52
        go_wp2_with fail
        go_ret
        exact ⟨ret_bool (by rw [HD.out]), (fr_setg _ _ _ _).setCell (.inl rfl) _, HKey.out _ _ HD.out rfl _ ((fr_setg _ _ _ _).setCell (.inl rfl) _) (heap_setCell_same _ _ 3 _ _ _ (heap_setCell_same _ _ 2 _ _ _ H.out.top))⟩
end Go.Proofs.Ytgeklapphkgdkaa.Dsk
