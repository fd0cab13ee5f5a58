import Derived.Test.YtgeklapphkgdkaaDsRm
set_option linter.unusedVariables false
set_option linter.unusedSimpArgs false
namespace Go.Proofs.Ytgeklapphkgdkaa.Dsk
open Go.RowKit Go.Maps

/-! ### Remove, of both disks -/
def DS.remove (σ : DS) (nm : ByteArray) : Int × DS :=
  let r := σ.begin (nameOk nm)
  if r.1 = 0 then
    match lookA nm.data.toList r.2.files with
    | none => (8, r.2)
    | some f => (0, { r.2 with files := delA nm.data.toList r.2.files })
  else r
theorem delA_pos (nm : List UInt8) : ∀ {fs : AF}, Srt fs → hasA nm fs = true → delA nm fs = fs.take (posA nm fs) ++ fs.drop (posA nm fs + 1)
  | [], _, h => by simp [hasA] at h
  | y :: r, hs, h => by
    have hs' := List.pairwise_cons.1 hs
    by_cases hb : bytesBefore y.1 nm = true
    · have hne : y.1 ≠ nm := fun e => by rw [e, before_irrefl] at hb; cases hb
      have hp : posA nm (y :: r) = posA nm r + 1 := by show (if _ then _ else _) = _; rw [if_pos hb]
      have hh : hasA nm (y :: r) = hasA nm r := by
        unfold hasA
        rw [hp]
        simp
      rw [hh] at h
      have ih := delA_pos nm (fs := r) hs'.2 h
      rw [hp]
      simp only [List.take_succ_cons, List.drop_succ_cons, List.cons_append]
      rw [← ih]
      simp [delA, hne]
    · have hp : posA nm (y :: r) = 0 := by show (if _ then _ else _) = _; rw [if_neg hb]
      have he : y.1 = nm := by
        unfold hasA at h
        rw [hp] at h
        simpa using h
      rw [hp]
      simp only [List.take_zero, List.nil_append, Nat.zero_add, List.drop_succ_cons, List.drop_zero]
      unfold delA
      rw [List.filter_cons_of_neg (by simp [he])]
      exact List.filter_eq_self.2 (fun x hx => by
        have := hs'.1 x hx
        simp only [Bool.not_eq_eq_eq_not, Bool.not_true, beq_eq_false_iff_ne]
        exact fun e => by rw [e, ← he, before_irrefl] at this; cases this)
theorem remove_eq {σ : DS} (nm : ByteArray) (hs : Srt σ.files) : σ.remove nm = if foundR σ nm = 0 then (0, { σ.down.2 with files := σ.down.2.files.take (posA nm.data.toList σ.files) ++ σ.down.2.files.drop (posA nm.data.toList σ.files + 1) }) else (foundR σ nm, σ.down.2) := by
  obtain ⟨h1, h2⟩ := begin_found nm hs
  have hd := (down_files σ).1
  unfold DS.remove
  rcases h2 with ⟨a, b, d⟩ | ⟨a, b, d⟩ | ⟨a, b⟩
  · have hh : hasA nm.data.toList σ.files = true := by
      rw [hd, look_has _ hs] at d
      by_cases hh : hasA nm.data.toList σ.files = true
      · exact hh
      · rw [if_neg hh] at d; cases d
    simp only [b, h1, d, a, if_true]
    rw [delA_pos _ (by rw [hd]; exact hs) (by rw [hd]; exact hh), hd]
  · simp only [b, h1, d, a, if_true]
    rw [if_neg (by omega)]
  · simp only
    rw [if_neg (by rw [b]; exact a), if_neg a]
    exact Prod.ext b h1
set_option maxHeartbeats 4000000 in
set_option maxRecDepth 100000 in
theorem r_remove {w : World} {B g : Nat} {σ : DS} {S : Nat → Prop} (h : IsR w B g σ S) (nm : ByteArray) (hs : nm.size ≤ 100000) :
    Calls Try.prog 39 #[.pointer (some ⟨g, 0, none⟩), .string nm] w fun e w' => e = .returned (.int .i64 (σ.remove nm).1) ∧ PostR B g S (σ.remove nm).2 w w' := by
  obtain ⟨room, v, A, c, ps, hr⟩ := h
  have HF := Kp.mk (r_found hr nm hs)
  have HE := Kp.mk (remove_eq nm hr.srt)
  have HDF := Kp.mk (down_files σ).1
  have HgS := Kp.mk hr.gS
  obtain ⟨fr, hfr⟩ : ∃ fr, fr = foundR σ nm := ⟨_, rfl⟩
  have HFR := Kp.mk hfr
  clear hr hfr
  go_enter Try.func39, Try.ntmps39
  go_wp2_with fail
  refine HF.out.mono ?_
  rintro e w1 ⟨i, rfl, hi, hf1, A1, c1, hr1⟩
  rw [← HFR.out] at hi ⊢
  have HF1 := Kp.mk hf1
  have HR1 := Kp.mk hr1
  by_cases h0 : fr = 0
  · obtain ⟨rfl, hh⟩ := hi h0
    subst h0
    obtain ⟨p, hp⟩ : ∃ p, p = posA nm.data.toList σ.files := ⟨_, rfl⟩
    have hpn : p < ps.length := by
      rw [hp, ← List.length_map (f := fun p : PF => p.2), hr1.abs, HDF.out]
      exact (hasA_at hh).1
    have HSZ : Kp (σ.remove nm = (0, { σ.down.2 with files := σ.down.2.files.take p ++ σ.down.2.files.drop (p + 1) })) := ⟨by rw [HE.out, ← HFR.out, if_pos rfl, ← hp]⟩
    have HG := Kp.mk (r_gone hr1 hpn)
    rw [← hp]
    clear hf1 hr1 hh hi hp HF hpn HE
    go_wp2_with fail
    refine HG.out.mono ?_
    rintro e w2 ⟨rfl, hf2, v2, hr2⟩
    have HF2 := Kp.mk hf2
    have HR2 := Kp.mk hr2
    clear hf2 hr2 HG
    go_wp2_with fail
    go_ret
    rw [HSZ.out]
    exact ⟨rfl, ⟨⟨_, _, _, _, _, HR2.out.mono (fun k _ hk => hk.imp id (fun h => Nat.le_trans HF1.out.size h))⟩, (HF1.out.trans HF2.out (fun _ h => .inl h)).mono (fun k _ hk => by rw [hk]; exact HgS.out)⟩⟩
  · have h1 : (fr == 0) = false := by simpa using h0
    have h2 : (fr != 0) = true := by simpa using h0
    have HSZ : Kp (σ.remove nm = (fr, σ.down.2)) := ⟨by rw [HE.out, ← HFR.out, if_neg h0]⟩
    clear hi hf1 hr1 h0 HF
    go_wp2_with fail
    go_ret
    rw [HSZ.out]
    exact ⟨rfl, postR_of HF1.out HR1.out⟩
set_option maxHeartbeats 4000000 in
set_option maxRecDepth 100000 in
theorem remove_any (w : World) (B g : Nat) (σ : DS) (S : Nat → Prop) (nm : ByteArray) (h : IsDisk w B g σ S) (hs : nm.size ≤ 100000) :
    Calls Try.prog 38 #[.pointer (some ⟨g, 0, none⟩), .string nm] w fun e w' => e = .returned (.int .i64 (σ.remove nm).1) ∧ Post B g S (σ.remove nm).2 w w' := by
  have Ho := Kp.mk (open1 w B g σ S nm h hs)
  have HS := Kp.mk h.gS
  clear h
  go_enter Try.func38, Try.ntmps38
  go_wp2_with fail
  refine Ho.out.mono ?_
  rintro e w1 ⟨hf, L, mb, A, c, hd, hcase⟩
  have HF := Kp.mk (fr_g (alloc_below w _) hf HS.out)
  rcases hcase with ⟨he, rfl⟩ | ⟨he, ⟨hn, rfl⟩ | ⟨x, hx, rfl⟩⟩
  · have Hr : Kp (σ.remove nm = σ.begin (nameOk nm)) := ⟨by unfold DS.remove; simp only; rw [if_neg he]⟩
    have hb : (((σ.begin (nameOk nm)).1) == 0) = false := by simpa using he
    have HD := Kp.mk hd
    clear hd hf Ho he
    generalize (σ.begin (nameOk nm)) = r at *
    obtain ⟨e0, σ1⟩ := r
    simp only at hb HD
    go_wp2
    go_ret
    rw [Hr.out]
    exact ⟨rfl, IsDisk.wide ⟨L, mb, A, c, HD.out⟩ _, HF.out⟩
  · have Hr : Kp (σ.remove nm = (8, (σ.begin (nameOk nm)).2)) := ⟨by unfold DS.remove; simp only; rw [if_pos he, hd.look, hn]; rfl⟩
    have HD := Kp.mk hd
    clear hd hf Ho he hn
    go_wp2
    go_ret
    rw [Hr.out]
    exact ⟨rfl, IsDisk.wide ⟨L, mb, A, c, HD.out⟩ _, HF.out⟩
  · have Hr : Kp (σ.remove nm = (0, { (σ.begin (nameOk nm)).2 with files := delA nm.data.toList (σ.begin (nameOk nm)).2.files })) := ⟨by unfold DS.remove; simp only; rw [if_pos he, hd.look, hx]; rfl⟩
    have HD := Kp.mk hd
    clear hd hf Ho he hx
    generalize (σ.begin (nameOk nm)).2 = σ1 at *
    go_wp2_with fail
    refine (gone_any w1 B g σ1 S L mb A c nm HD.out hs).mono ?_
    rintro e w2 ⟨rfl, hd2, hf2, hs2⟩
    have HD2 := Kp.mk hd2
    have HF2 := Kp.mk hf2
    have Hs2 := Kp.mk hs2
    clear hd2 hf2 hs2
    go_wp2_with fail
    go_ret
    rw [Hr.out]
    exact ⟨rfl, IsDisk.wide ⟨_, mb, A, c, HD2.out⟩ _, HF.out.trans HF2.out (fun k hk => .inl hk)⟩
end Go.Proofs.Ytgeklapphkgdkaa.Dsk
