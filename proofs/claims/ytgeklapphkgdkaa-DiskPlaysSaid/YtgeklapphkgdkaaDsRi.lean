import Derived.Test.YtgeklapphkgdkaaDsRh
set_option linter.unusedVariables false
set_option linter.unusedSimpArgs false
namespace Go.Proofs.Ytgeklapphkgdkaa.Dsk
open Go.RowKit Go.Maps Go.Sort Go.Shelf

/-! ### The reference's disk: List; SameTexts -/
theorem Try.infoStr : (Try.prog.info? 9).map (fun i => (i.zero, i.size, i.bytes)) = some (some (.string ByteArray.empty), 1, 16) := by kernel_rfl
def namesOf (fs : AF) : List (List UInt8) := fs.map (fun x => x.1)
theorem enc_nm {nm : ByteArray} {l : List UInt8} (h : nm.data.toList = l) : Value.string nm = encStr l := by
  subst h
  show Value.string nm = Value.string ⟨nm.data.toList.toArray⟩
  rw [Array.toArray_toList]
/-- append of one string. -/
theorem wpList_append_str {w : World} {ops : Array Oper} {rest : List Oper} {o : Oper} {a : Act} {Q : Exit → Act → World → Prop} (hgd : o.guard = none) (s x : Operand)
    (ho : o.op = .call { callee := .builtin .append, args := #[s, x], argTypes := #[42, 42] })
    (B : Nat) (v : Value) (n : Nat) (xs : List Value) (nm : ByteArray) (ad : Addr) (c : Nat) (hs : a.eval s = v) (hx : a.eval x = .slice (some ad) 1 c) (hown : w.ownsRow B 9 1 v n xs)
    (hc : ∀ j u, [Value.string nm][j]? = some u → w.cell? (ad.add j) = some u) (hl : n ≤ 100000) (hbase : B ≤ w.heap.size)
    (h : ∀ A' c' w', w'.ownsRow B 9 1 (.slice A' (n + 1) c') (n + 1) (xs ++ [Value.string nm]) → Below B w w' → wpList Try.prog ops Q rest (a.put o.dst (.slice A' (n + 1) c')) w') :
    wpList Try.prog ops Q (o :: rest) a w := by
  obtain ⟨i0, hi, hz0, hz1, hz2⟩ := info_parts Try.infoStr
  refine wpList_append_own_at w hgd s x 42 ho B 9 i0 (.string ByteArray.empty) 1 16 Try.underlying42 hi hz0 hz1 hz2 rfl (by omega) v n xs hs hown ad 1 c [Value.string nm] hx rfl hc (fun u hu => by simp at hu; subst hu; rfl) (by unfold maxLen; omega) (by omega) hbase ?_
  intro v' w' h1 h2 _ _
  obtain ⟨A', c', rfl⟩ := row_slice h1
  exact h A' c' w' h1 ((Below.refl _ _).grown h2 hbase (fun q hq => by
    rcases hown.2 with ⟨e1, _⟩ | ⟨q2, cap, cur, e1, hB, _⟩
    · rw [e1] at hq; cases hq
    · rw [e1] at hq
      have : q2 = q := by injection hq
      omega))
set_option maxHeartbeats 2000000 in
set_option maxRecDepth 100000 in
theorem r_list {w : World} {B g : Nat} {σ : DS} {S : Nat → Prop} (h : IsR w B g σ S) : Calls Try.prog 47 #[.pointer (some ⟨g, 0, none⟩)] w
    fun e w' => ∃ A' c', e = .returned (.slice A' σ.files.length c') ∧ w'.ownsRow w.heap.size 9 1 (.slice A' σ.files.length c') σ.files.length ((namesOf σ.files).map encStr) ∧ Below w.heap.size w w' := by
  obtain ⟨room, v, A, c, ps, hr⟩ := h
  obtain ⟨Av, nv, cv, rfl⟩ := hr.slice
  obtain ⟨hnv, hcv, hcells⟩ := hr.cells
  have hlen : σ.files.length = nv := by rw [hnv, ← hr.abs, List.length_map]
  have hnv1 : nv ≤ 1000 := by have := hr.most; omega
  have c1 := cells_top hr.top 1 (.slice Av nv cv) rfl
  have HC := Kp.mk hcells
  have HL := Kp.mk hlen
  clear hr hcells hlen hnv
  go_enter Try.func47, Try.ntmps47
  go_wp2_with fail
  go_loopw [4, 3] (fun i s wr => ∃ (j no co : Nat) (Ao : Option Addr), i = .int .i64 (j : Nat) ∧ s = .slice Ao no co ∧ j ≤ nv ∧ Kp (wr.ownsRow w.heap.size 9 1 (.slice Ao no co) j ((namesOf (σ.files.take j)).map encStr)) ∧ Kp (Below w.heap.size w wr)) (fun i _ _ => nv - (intOf i).toNat)
  case atStart => exact ⟨0, 0, 0, none, rfl, rfl, Nat.zero_le _, ⟨rfl, .inl ⟨rfl, rfl⟩⟩, ⟨Below.refl _ _⟩⟩
  case round =>
    obtain ⟨j, no, co, Ao, rfl, rfl, hj, HO, HB⟩ := hrel
    have c1r := cell_kept HB.out c1
    by_cases hjn : j < nv
    · obtain ⟨q, rfl, _, _, _, hcj⟩ := HC.out (by omega)
      obtain ⟨nj, Aj, lj, cj, z0, _, _, hnj, _⟩ := hcj j hjn
      have z0r := cell_kept HB.out z0
      have hjn' : ¬ nv ≤ j := by omega
      have HNj : Kp ((namesOf (σ.files.take (j + 1))).map encStr = (namesOf (σ.files.take j)).map encStr ++ [Value.string nj]) := ⟨by
        have hl := HL.out
        rw [List.take_succ_eq_append_getElem (by omega)]
        unfold namesOf
        rw [List.map_append, List.map_append, enc_nm hnj]
        have e : σ.files.getD j afD = σ.files[j]'(by omega) := by simp [List.getD, show j < σ.files.length by omega]
        rw [e]
        rfl⟩
      have HOa := Kp.mk (row_heap HO.out (W := wr.alloc (.cells #[.string nj] 9)) (fun k hk => ((alloc_below wr (.cells #[.string nj] 9)).block k (rrow_lt HO.out k hk))))
      have HBa := Kp.mk (HB.out.trans ((alloc_below wr (.cells #[.string nj] 9)).mono HB.out.size))
      have HCa : Kp (∀ j' u, [Value.string nj][j']? = some u → (wr.alloc (.cells #[.string nj] 9)).cell? ((⟨wr.heap.size, 0, none⟩ : Addr).add j') = some u) := ⟨fun j' u hu => by
        rw [Addr.add_lit, Nat.zero_add]
        exact cells_top (heap_alloc_new wr _) j' u (by simpa using hu)⟩
      clear hcj hnj z0
      have HJ : Kp (j ≤ 100000) := ⟨by omega⟩
      go_wp2_with (at_builtin; go_must (refine wpList_append_str (w := wr.alloc (.cells #[.string nj] 9)) rfl (.tmp 14) (.tmp 23) rfl w.heap.size (.slice Ao no co) j ((namesOf (σ.files.take j)).map encStr) nj ⟨wr.heap.size, 0, none⟩ 1 rfl rfl HOa.out HCa.out HJ.out HBa.out.size ?_); intro A9 c9 w9 h1 h2; have HN := Kp.mk h1; have HBn := Kp.mk (HBa.out.trans h2); clear h1 h2)
      go_roundw
      case rel => exact ⟨j + 1, _, c9, A9, by go_num, rfl, by omega, ⟨by rw [HNj.out]; exact HN.out⟩, HBn⟩
      case measure => simp [intOf]; omega
    · obtain rfl : nv = j := by omega
      go_wp2_with fail
      go_ret
      have hrow := HO.out
      rw [← HL.out, List.take_length] at hrow
      obtain ⟨A2, c2, e2⟩ := row_slice hrow
      rw [e2] at hrow
      exact ⟨A2, c2, congrArg Ending.returned e2, hrow, HB.out⟩
end Go.Proofs.Ytgeklapphkgdkaa.Dsk
