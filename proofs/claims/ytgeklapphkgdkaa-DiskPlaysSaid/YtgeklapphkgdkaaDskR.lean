import Derived.Test.YtgeklapphkgdkaaDskQ
set_option linter.unusedVariables false
set_option linter.unusedSimpArgs false
namespace Go.Proofs.Ytgeklapphkgdkaa.Dsk
open Go.RowKit Go.Maps

theorem toList_inj {a b : ByteArray} (h : a.data.toList = b.data.toList) : a = b := WideShapes.bytes_inj h

set_option maxHeartbeats 4000000 in
set_option maxRecDepth 100000 in
theorem rename_any (w : World) (B g : Nat) (σ : DS) (S : Nat → Prop) (fr to : ByteArray) (h : IsDisk w B g σ S) (hfs : fr.size ≤ 100000) (hts : to.size ≤ 100000) :
    Calls Try.prog 20 #[.pointer (some ⟨g, 0, none⟩), .string fr, .string to] w fun e w' => e = .returned (.int .i64 (σ.rename fr to).1) ∧ Post B g S (σ.rename fr to).2 w w' := by
  have Ho := Kp.mk (open2 w B g σ S fr to h hfs hts)
  have HS := Kp.mk h.gS
  clear h
  have Hkf := Kp.mk (WideMaps.keyOf_string_mk Try.underlying9 (by unfold maxLen; omega) : keyOf Try.prog 9 (.string fr) = some (.string fr.data.toList))
  have Hkt := Kp.mk (WideMaps.keyOf_string_mk Try.underlying9 (by unfold maxLen; omega) : keyOf Try.prog 9 (.string to) = some (.string to.data.toList))
  go_enter Try.func20, Try.ntmps20
  go_wp2_with fail
  refine Ho.out.mono ?_
  rintro e w1 ⟨hf, L, mb, A, c, hd, hcase⟩
  have HF := Kp.mk (fr_g (alloc_below w _) hf HS.out)
  rcases hcase with ⟨he, rfl⟩ | ⟨he, ⟨hn, rfl⟩ | ⟨x, hx, rfl⟩⟩
  · have Hr : Kp (σ.rename fr to = σ.begin (nameOk fr && nameOk to)) := ⟨by unfold DS.rename; simp only; rw [if_neg he]⟩
    have hb : (((σ.begin (nameOk fr && nameOk to)).1) != 0) = true := by simpa using he
    have HD := Kp.mk hd
    clear hd hf Ho he
    generalize (σ.begin (nameOk fr && nameOk to)) = r at *
    obtain ⟨e0, σ1⟩ := r
    simp only at hb HD
    go_wp2
    go_ret
    rw [Hr.out]
    exact ⟨rfl, IsDisk.wide ⟨L, mb, A, c, HD.out⟩ _, HF.out⟩
  · have Hr : Kp (σ.rename fr to = (8, (σ.begin (nameOk fr && nameOk to)).2)) := ⟨by unfold DS.rename; simp only; rw [if_pos he, hd.look, hn]; rfl⟩
    have HD := Kp.mk hd
    clear hd hf Ho he hn
    go_wp2
    go_ret
    rw [Hr.out]
    exact ⟨rfl, IsDisk.wide ⟨L, mb, A, c, HD.out⟩ _, HF.out⟩
  · have hm := mem_find hx
    have Hr : Kp (σ.rename fr to = if fr = to then (0, (σ.begin (nameOk fr && nameOk to)).2) else (0, { (σ.begin (nameOk fr && nameOk to)).2 with files := insA to.data.toList (x.b, x.syn) (delA fr.data.toList (delA to.data.toList (σ.begin (nameOk fr && nameOk to)).2.files)) })) :=
      ⟨by unfold DS.rename; simp only; rw [if_pos he, hd.look, hx]; rfl⟩
    have HD := Kp.mk hd
    clear hd hf Ho he hx
    by_cases hft : fr = to
    · have hr2 := Hr.out
      rw [if_pos hft] at hr2
      have Hr2 := Kp.mk hr2
      clear hr2 Hr
      subst hft
      go_wp2
      go_ret
      rw [Hr2.out]
      exact ⟨rfl, IsDisk.wide ⟨L, mb, A, c, HD.out⟩ _, HF.out⟩
    · have hr2 := Hr.out
      rw [if_neg hft] at hr2
      have Hr2 := Kp.mk hr2
      have hne : (fr.toList == to.toList) = false := by
        rw [ByteArray.toList_eq, ByteArray.toList_eq, beq_eq_false_iff_ne]
        exact fun e => hft (toList_inj e)
      have Hft : Kp (fr.data.toList ≠ to.data.toList) := ⟨fun e => hft (toList_inj e)⟩
      have Hm := Kp.mk hm
      clear hr2 Hr hft hm
      generalize (σ.begin (nameOk fr && nameOk to)).2 = σ1 at *
      go_wp2_with fail
      refine (gone_any w1 B g σ1 S L mb A c to HD.out hts).mono ?_
      rintro e w2 ⟨rfl, hd2, hf2, hs2⟩
      have hxm : x ∈ delF to.data.toList L := mem_delF.2 ⟨Hm.out.1, by rw [Hm.out.2]; exact Hft.out⟩
      have c1 := cells_top hd2.top 1 _ rfl
      have HD2 := Kp.mk hd2
      have HF2 := Kp.mk hf2
      have Hs2 := Kp.mk hs2
      have Hxm := Kp.mk hxm
      clear hd2 hf2 hs2 hxm
      obtain ⟨L2, hL2⟩ : ∃ L2, L2 = delF to.data.toList L := ⟨_, rfl⟩
      have HL2 := Kp.mk hL2
      rw [← hL2] at HD2 Hxm
      clear hL2
      go_wp2_with (first
        | (at_delete; refine wpList_delete_own _ rfl _ _ 57 9 rfl 61 law9 Try.underlying57 ptrE mb L2.length (.map (L2.map FE.ent)) rfl HD2.out.own _ (.string fr.data.toList) rfl Hkf.out ?_; intro w3 hown3 hturn3; have hgt3 := (hturn3.grown.block g (lt_of_block HD2.out.top) (fun e => HD2.out.g_ne_map (by injection e with e; exact e.symm))).trans HD2.out.top; have c13 := cells_top hgt3 1 _ rfl; have Hown3 := Kp.mk hown3; have Hturn3 := Kp.mk hturn3; clear hown3 hturn3 hgt3)
        | (at_mapUpdate; refine wpList_mapUpdate_in _ rfl _ _ _ 57 rfl 9 61 law9 Try.underlying57 ptrE mb L2.length _ rfl Hown3.out (by have := HD2.out.most; unfold maxLen; omega) _ _ _ rfl rfl Hkt.out (.held x.blk) [] rfl ?_; intro w4 hown4 hturn4; have Hown4 := Kp.mk hown4; have Hturn4 := Kp.mk hturn4; clear hown4 hturn4))
      go_ret
      have hto : findF to.data.toList (delF fr.data.toList L2) = none := by
        cases hf : findF to.data.toList (delF fr.data.toList L2) with
        | none => rfl
        | some y =>
          have := mem_find hf
          have h1 := (mem_delF.1 this.1).1
          rw [HL2.out] at h1
          exact absurd this.2 (mem_delF.1 h1).2
      have hto2 : findF to.data.toList L2 = none := by
        cases hf : findF to.data.toList L2 with
        | none => rfl
        | some y =>
          have := mem_find hf
          have h1 := this.1
          rw [HL2.out] at h1
          exact absurd this.2 (mem_delF.1 h1).2
      have hown4 := Hown4.out
      rw [del_ent, put_ent { x with name := to.data.toList } hto rfl] at hown4
      rw [← Hm.out.2] at hown4 hto
      have hg3 := Hturn3.out.grown
      have hg4 := Hturn4.out.grown
      have hfin := HD2.out.move (W := w4) Hxm.out to.data.toList hto2 (fun k hk1 hk2 => by
        rw [hg4.block k (Nat.lt_of_lt_of_le hk1 hg3.size) (fun e => hk2 (by injection e)), hg3.block k hk1 (fun e => hk2 (by injection e))]) hown4
      rw [Hr2.out]
      have hS : S mb := HD.out.mS
      simp only [Hm.out.2] at hfin
      exact ⟨rfl, IsDisk.wide ⟨_, mb, A, c, hfin⟩ _, ((HF.out.trans HF2.out (fun k hk => .inl hk)).turned Hturn3.out (.inl hS)).turned Hturn4.out (.inl hS)⟩
end Go.Proofs.Ytgeklapphkgdkaa.Dsk
