import Derived.Test.YtgeklapphkgdkaaDsRn
import Derived.Test.YtgeklapphkgdkaaDskG
set_option linter.unusedVariables false
set_option linter.unusedSimpArgs false
namespace Go.Proofs.Ytgeklapphkgdkaa.Dsk
open Go.RowKit Go.Maps

/-! ### append of bytes in a region that draws; a file's place -/
theorem step_appb {w0 : World} {w : World} {ops : Array Oper} {o : Oper} {a : Act} {K : Act → World → Prop} {Q : Exit → Act → World → Prop} {E : Prop} (hgd : o.guard = none) (s x : Operand)
    (ho : o.op = .call { callee := .builtin .append, args := #[s, x], argTypes := #[26, 26] }) (hb : Below w0.heap.size w0 w)
    (v : Value) (n m c : Nat) (xs ys : List Int) (A : Option Addr) (hs : a.eval s = v) (hx : a.eval x = .slice A m c) (hown : w.ownsRow w0.heap.size 5 1 v n (nums .u8 xs)) (hr : Rd w .u8 A m c ys) (hl : n + m ≤ 100000000)
    (hnext : ∀ A' c' w', Below w0.heap.size w0 w' → w'.ownsRow w0.heap.size 5 1 (.slice A' (n + m) c') (n + m) (nums .u8 (xs ++ ys)) → K (a.put o.dst (.slice A' (n + m) c')) w') :
    if Region.wanted o (yielded ops a.tmps) = true then Oper.wp Try.prog o a w K Q else E := by
  have hw : Region.wanted o (yielded ops a.tmps) = true := by simp [Region.wanted, hgd]
  rw [if_pos hw]
  obtain ⟨i0, hi, hz0, hz1, hz2⟩ := info_parts Try.infoU8
  cases A with
  | none =>
    obtain ⟨rfl, rfl⟩ := hr.nil rfl
    have hy : ys = [] := List.eq_nil_of_length_eq_zero hr.len
    subst hy
    have hrun := run_append_owned_none (P := Try.prog) (w := w) w0.heap.size 26 o.type 5 i0 1 Try.underlying26 hi v n (nums .u8 xs) hown
    unfold Oper.wp
    simp [execOp, ho, resolve, invoke, builtin, hs, hx, hrun, Result.andThen]
    obtain ⟨A', c', rfl⟩ := row_slice hown
    exact hnext A' c' w hb (by simpa using hown)
  | some ad =>
    have hcell : ∀ j u, (nums .u8 ys)[j]? = some u → w.cell? (ad.add j) = some u := by
      intro j u hu
      have hj : j < ys.length := by
        have := (List.getElem?_eq_some_iff.1 hu).1
        simpa [nums] using this
      obtain ⟨ad', e', hc⟩ := hr.cell (by have := hr.len; omega)
      cases e'
      rw [hc j (by have := hr.len; omega)]
      rw [← hu]
      simp [nums, List.getD, hj]
    obtain ⟨v', w', hrun, h1, h2, h3, h4⟩ := run_append_own_at (P := Try.prog) w w0.heap.size 26 o.type 5 i0 _ 1 1 Try.underlying26 hi hz0 hz1 hz2 rfl (by omega) v n (nums .u8 xs) hown ad m c (nums .u8 ys) (by simp [nums, hr.len]) hcell (ints_oneCell .u8 ys) (by unfold maxLen; omega) (by omega) hb.size
    unfold Oper.wp execOp
    simp only [ho, resolve, invoke, builtin, Sem.run_bind, Sem.run_pure, Result.andThen_ok, List.map_toArray, List.map_cons, List.map_nil, hs, hx, hrun]
    obtain ⟨A', c', rfl⟩ := row_slice h1
    refine hnext A' c' w' (hb.grown h2 hb.size (fun q hq => ?_)) (by simpa [nums] using h1)
    rcases hown.2 with ⟨e1, e2⟩ | ⟨q2, cap, cur, e1, hB, _⟩
    · rw [e1] at hq; cases hq
    · rw [e1] at hq
      have hq' : some q2 = some q := hq
      injection hq' with hq'
      omega
theorem before_total : ∀ (a b : List UInt8), bytesBefore a b = false → a ≠ b → bytesBefore b a = true
  | [], [], _, h => absurd rfl h
  | [], _ :: _, h, _ => by simp [bytesBefore] at h
  | _ :: _, [], _, _ => by simp [bytesBefore]
  | x :: r, y :: s, h, hne => by
    have ih := before_total r s
    by_cases hxy : x = y
    · subst hxy
      have h' : bytesBefore r s = false := by simpa [bytesBefore] using h
      have := ih h' (fun e => hne (by rw [e]))
      simpa [bytesBefore] using this
    · have h1 : ¬ x < y := by
        intro hlt
        simp [bytesBefore, hlt] at h
      have h2 : y < x := by
        rcases Nat.lt_trichotomy x.toNat y.toNat with g | g | g
        · exact absurd (UInt8.lt_iff_toNat_lt.2 g) h1
        · exact absurd (UInt8.toNat_inj.1 g) hxy
        · exact UInt8.lt_iff_toNat_lt.2 g
      simp [bytesBefore, h2]
theorem before_trans : ∀ {a b c : List UInt8}, bytesBefore a b = true → bytesBefore b c = true → bytesBefore a c = true
  | [], [], _, h, _ => by simp [bytesBefore] at h
  | _, _ :: _, [], _, h => by simp [bytesBefore] at h
  | _ :: _, [], _, h, _ => by simp [bytesBefore] at h
  | [], _ :: _, _ :: _, _, _ => by simp [bytesBefore]
  | x :: r, y :: s, z :: t, h1, h2 => by
    have ih := @before_trans r s t
    simp only [bytesBefore, Bool.or_eq_true, Bool.and_eq_true, decide_eq_true_eq, beq_iff_eq] at h1 h2 ⊢
    rcases h1 with g1 | ⟨rfl, g1⟩
    · rcases h2 with g2 | ⟨rfl, g2⟩
      · exact .inl (UInt8.lt_iff_toNat_lt.2 (Nat.lt_trans (UInt8.lt_iff_toNat_lt.1 g1) (UInt8.lt_iff_toNat_lt.1 g2)))
      · exact .inl g1
    · rcases h2 with g2 | ⟨rfl, g2⟩
      · exact .inl g2
      · exact .inr ⟨rfl, ih g1 g2⟩
theorem insA_pos (nm : List UInt8) (v : List Int × Nat) : ∀ {fs : AF}, Srt fs → hasA nm fs = false → insA nm v fs = fs.take (posA nm fs) ++ (nm, v) :: fs.drop (posA nm fs)
  | [], _, _ => by simp [insA, posA]
  | y :: r, hs, h => by
    have hs' := List.pairwise_cons.1 hs
    by_cases hb : bytesBefore y.1 nm = true
    · have hp : posA nm (y :: r) = posA nm r + 1 := by show (if _ then _ else _) = _; rw [if_pos hb]
      have hh : hasA nm (y :: r) = hasA nm r := by
        unfold hasA
        rw [hp]
        simp
      rw [hh] at h
      have ih := insA_pos nm v (fs := r) hs'.2 h
      have hnb : ¬ bytesBefore nm y.1 = true := by
        intro e
        have := before_trans e hb
        rw [before_irrefl] at this
        cases this
      rw [hp]
      simp only [List.take_succ_cons, List.drop_succ_cons, List.cons_append]
      rw [← ih]
      show (if _ then _ else _) = _
      rw [if_neg hnb]
    · have hp : posA nm (y :: r) = 0 := by show (if _ then _ else _) = _; rw [if_neg hb]
      have he : y.1 ≠ nm := by
        unfold hasA at h
        rw [hp] at h
        simpa using h
      have := before_total y.1 nm (by simpa using hb) he
      rw [hp]
      show (if _ then _ else _) = _
      rw [if_pos this]
      rfl
/-- The lists stay in order. -/
theorem srt_ins (nm : List UInt8) (v : List Int × Nat) {fs : AF} (hs : Srt fs) (h : hasA nm fs = false) : Srt (fs.take (posA nm fs) ++ (nm, v) :: fs.drop (posA nm fs)) := by
  unfold Srt at hs ⊢
  have e := hs
  rw [← List.take_append_drop (posA nm fs) fs, List.pairwise_append] at e
  obtain ⟨e1, e2, e3⟩ := e
  have hlt : ∀ x ∈ fs.take (posA nm fs), bytesBefore x.1 nm = true := fun x hx => by
    obtain ⟨j, hj, rfl⟩ := List.getElem_of_mem hx
    have hj1 : j < posA nm fs := by rw [List.length_take] at hj; omega
    have hj2 : j < fs.length := by rw [List.length_take] at hj; omega
    have := posA_before nm fs j hj1
    rw [List.getElem_take]
    simpa [List.getD, hj2] using this
  have hgt : ∀ x ∈ fs.drop (posA nm fs), bytesBefore nm x.1 = true := fun x hx => by
    have hl : posA nm fs < fs.length := by
      rcases Nat.lt_or_ge (posA nm fs) fs.length with g | g
      · exact g
      · rw [List.drop_eq_nil_of_le g] at hx; cases hx
    have hat := posA_at nm fs hl
    have hne : (fs.getD (posA nm fs) afD).1 ≠ nm := by
      unfold hasA at h
      rw [decide_eq_true hl, Bool.true_and] at h
      simpa using h
    have h1 := before_total _ _ hat hne
    obtain ⟨j, hj, rfl⟩ := List.getElem_of_mem hx
    rw [List.length_drop] at hj
    rw [List.getElem_drop]
    have hg : fs.getD (posA nm fs) afD = fs[posA nm fs] := by simp [List.getD, hl]
    rw [hg] at h1
    rcases Nat.eq_zero_or_pos j with g | g
    · subst g; simpa using h1
    · exact before_trans h1 (List.pairwise_iff_getElem.1 hs _ _ hl (by omega) (by omega))
  refine List.pairwise_append.2 ⟨e1, List.pairwise_cons.2 ⟨hgt, e2⟩, fun x hx y hy => ?_⟩
  rcases List.mem_cons.1 hy with rfl | hy
  · exact hlt x hx
  · exact e3 x hx y hy
/-- What the reference's Append tells. -/
theorem append_eq {σ : DS} (nm : ByteArray) (b : List Int) (hs : Srt σ.files) : σ.append nm b =
    if σ.down.1 then (11, σ.down.2) else if nameOk nm then
      (if hasA nm.data.toList σ.files then
        (if 16777216 < (σ.files.getD (posA nm.data.toList σ.files) afD).2.1.length + b.length then (3, σ.down.2) else if σ.room - used σ.files < b.length then (7, σ.down.2) else
          (0, { σ.down.2 with files := σ.files.set (posA nm.data.toList σ.files) (nm.data.toList, ((σ.files.getD (posA nm.data.toList σ.files) afD).2.1 ++ b, (σ.files.getD (posA nm.data.toList σ.files) afD).2.2)) }))
      else if 16777216 < b.length ∨ 1000 ≤ σ.files.length then (3, σ.down.2) else if σ.room - used σ.files < b.length then (7, σ.down.2) else
          (0, { σ.down.2 with files := σ.files.take (posA nm.data.toList σ.files) ++ (nm.data.toList, (b, 0)) :: σ.files.drop (posA nm.data.toList σ.files) }))
    else (6, σ.down.2) := by
  obtain ⟨hd, hrm⟩ := down_files σ
  unfold DS.append
  rw [begin_down]
  cases h1 : σ.down.1
  · cases h2 : nameOk nm
    · simp
    · simp only [Bool.false_eq_true, if_false, if_true]
      rw [hd, hrm, look_has _ hs]
      cases h3 : hasA nm.data.toList σ.files
      · simp only [Bool.false_eq_true, if_false]
        rw [insA_pos _ _ hs h3]
      · simp only [if_true]
        rw [setA_pos _ _ hs h3]
  · simp
end Go.Proofs.Ytgeklapphkgdkaa.Dsk
