import Derived.Test.YtgeklapphkgdkaaDsRl
set_option linter.unusedVariables false
set_option linter.unusedSimpArgs false
namespace Go.Proofs.Ytgeklapphkgdkaa.Dsk
open Go.RowKit Go.Maps

/-! ### The reference's disk: another list of files -/
theorem RD.relist {w W : World} {B g : Nat} {σ : DS} {S : Nat → Prop} {room : Int} {v v' : Value} {A : Option Addr} {c : Nat} {ps ps' : List PF} (h : RD w B g σ S room v A c ps) (hB : Below w.heap.size w W)
    (ho : W.ownsRow B 88 3 v' ps'.length (flat3 ps')) (hf : ∀ p ∈ ps', FileC w p.1 p.2) (hfar : ∀ p ∈ ps', ∀ A n c, Value.slice (some A) n c ∈ p.1.toList → 0 < n → S A.block ∧ A.block ≠ g)
    (hv : ∀ q, v'.ownBlock = some q → w.heap.size ≤ q) (hs : Srt (ps'.map fun p : PF => p.2)) (hm : ps'.length ≤ 1000) :
    RD (W.setCell ⟨g, 1, none⟩ v') B g { σ with files := ps'.map fun p : PF => p.2 } (fun k => S k ∨ w.heap.size ≤ k) room v' A c ps' := by
  have hg := lt_of_block h.top
  have hfr := fr_setg W g 1 v'
  have hvg : ∀ q, v'.ownBlock = some q → q ≠ g := fun q e => by have := hv q e; omega
  have hlt : ∀ p ∈ ps', ∀ A n c, Value.slice (some A) n c ∈ p.1.toList → 0 < n → A.block < w.heap.size := fun p hp A n c hm hn => by
    obtain ⟨nm, A', n', c', e, _, hr, _⟩ := (hf p hp).out
    rw [e] at hm
    simp at hm
    obtain ⟨e1, e2, _⟩ := hm
    exact hr.lt A e1.symm (by omega)
  refine ⟨rfl, ?_, rrow_heap ho (fun k hk => hfr.block k (rrow_lt ho k hk) (hvg k hk)), fun p hp => ?_, fun p hp A n c hm hn => ⟨.inl (hfar p hp A n c hm hn).1, (hfar p hp A n c hm hn).2, fun e => by have := hv _ e; have := hlt p hp A n c hm hn; omega⟩,
    ?_, h.fcap, fun ad e hn => ⟨.inl (h.ffar ad e hn).1, (h.ffar ad e hn).2.1, fun e2 => by have := hv _ e2; have := h.fails.lt ad e hn; omega⟩, h.gB, .inl h.gS, fun q e => ⟨.inr (hv q e), hvg q e⟩, h.room, hs, hm⟩
  · exact heap_setCell_same W g 1 _ _ _ ((hB.block g hg).trans h.top)
  · exact ((hf p hp).kept (Fr.of_below (S := fun _ => False) hB) (fun _ _ _ _ _ h => h)).kept hfr (fun A n c hm hn => (hfar p hp A n c hm hn).2)
  · exact (h.fails.below hB).kept hfr (fun ad e hn => (h.ffar ad e hn).2.1)
theorem nilOwn (w : World) (B : Nat) : w.ownsRow B 88 3 (.slice none 0 0) ([] : List PF).length (flat3 []) := ⟨rfl, .inl ⟨rfl, rfl⟩⟩
theorem srt_gone {fs : AF} (h : Srt fs) (i : Nat) : Srt (fs.take i ++ fs.drop (i + 1)) := by
  unfold Srt at h ⊢
  refine h.sublist ?_
  rw [← List.eraseIdx_eq_take_drop_succ]
  exact List.eraseIdx_sublist fs i
theorem frozen_below {w W : World} {g : Nat} {cs : Array Value} {t : TypeId} (hb : Below w.heap.size w W) (h : w.heap[g]? = some (.cells cs t (0, 0))) (j : Nat) : W.frozen? ⟨g, j, none⟩ = false := free_top ((hb.block g (lt_of_block h)).trans h) j
/-- append(v, src...) of files over a world that only grows. -/
theorem step_app3 {w0 : World} {B : Nat} {w : World} {ops : Array Oper} {o : Oper} {a : Act} {K : Act → World → Prop} {Q : Exit → Act → World → Prop} {E : Prop} (hgd : o.guard = none) (s x : Operand)
    (ho : o.op = .call { callee := .builtin .append, args := #[s, x], argTypes := #[73, 73] }) (hb : Below w0.heap.size w0 w)
    (v : Value) (ps qs : List PF) (A : Option Addr) (m c : Nat) (hs : a.eval s = v) (hx : a.eval x = .slice A m c) (h : w.ownsRow B 88 3 v ps.length (flat3 ps)) (hvb : ∀ q, v.ownBlock = some q → w0.heap.size ≤ q) (hp : ∀ p ∈ ps, FileC w0 p.1 p.2) (hq : ∀ p ∈ qs, FileC w0 p.1 p.2) (hr : Row3 w A m qs) (hc : A = none → c = 0)
    (hl : ps.length + qs.length ≤ 100000) (hbase : B ≤ w0.heap.size)
    (hnext : ∀ A' n' c' w', Below w0.heap.size w0 w' → w'.ownsRow B 88 3 (.slice A' n' c') (ps ++ qs).length (flat3 (ps ++ qs)) → (∀ q, (Value.slice A' n' c').ownBlock = some q → w0.heap.size ≤ q) → K (a.put o.dst (.slice A' n' c')) w') :
    if Region.wanted o (yielded ops a.tmps) = true then Oper.wp Try.prog o a w K Q else E := by
  have hk : ∀ {p : PF}, FileC w0 p.1 p.2 → FileC w p.1 p.2 := fun h => h.kept (Fr.of_below (S := fun _ => False) hb) (fun _ _ _ _ _ h => h)
  refine step_append_f3 hgd s x ho v ps qs A m c hs hx h (fun p h => hk (hp p h)) (fun p h => hk (hq p h)) hr hc hl (Nat.le_trans hbase hb.size) fun A' n' c' w' h1 h2 h3 => hnext A' n' c' w' ?_ h1 fun q e => ?_
  · exact (((Fr.of_below (S := fun _ => False) hb).mono (S2 := fun k => w0.heap.size ≤ k) (fun _ _ h => h.elim)).trans h2 (fun k e => .inl (hvb k e.symm))).toBelow (fun _ h => h) (Nat.le_refl _)
  · rcases h3 with h3 | ⟨q2, h3, h4⟩
    · exact hvb q (h3 ▸ e)
    · rw [h3] at e
      injection e with e
      subst e
      exact Nat.le_trans hb.size h4
set_option maxHeartbeats 8000000 in
set_option maxRecDepth 100000 in
theorem r_gone {w : World} {B g : Nat} {σ : DS} {S : Nat → Prop} {room : Int} {v : Value} {A : Option Addr} {c : Nat} {ps : List PF} (h : RD w B g σ S room v A c ps) {i : Nat} (hi : i < ps.length) :
    Calls Try.prog 55 #[.pointer (some ⟨g, 0, none⟩), .int .i64 (i : Nat)] w fun e w' => e = .returned (.tuple #[]) ∧ Fr w w' (fun k => k = g) ∧ ∃ v', RD w' B g { σ with files := σ.files.take i ++ σ.files.drop (i + 1) } (fun k => S k ∨ w.heap.size ≤ k) room v' A c (ps.take i ++ ps.drop (i + 1)) := by
  obtain ⟨Av, nv, cv, rfl⟩ := h.slice
  obtain ⟨hnv, hcv, h3, _⟩ := own_row3 h.own h.file
  obtain ⟨q, rfl, hc⟩ := h3 (by omega)
  have d1 := cells_top h.top 1 (.slice (some ⟨q, 0, none⟩) nv cv) rfl
  have f1 := free_top h.top 1
  have hmost := h.most
  have H := Kp.mk h
  have hin : i < nv := by omega
  have hin' : i ≤ nv := by omega
  have hin1 : i + 1 ≤ nv := by omega
  have hic : i ≤ cv := by omega
  have hic1 : i + 1 ≤ cv := by omega
  have hw1 : IntKind.i64.wrap ((i : Int) + 1) = ((i + 1 : Nat) : Int) := (IntWalk.i64_in _ (by omega)).trans (by omega)
  have hrow : Row3 w (some ⟨q, 0, none⟩) nv ps := ⟨hnv, (fun e => by cases e), fun ad e j u hu => by
    injection e with e
    subst e
    rw [Addr.add_lit, Nat.zero_add]
    exact hc j u hu⟩
  have hlt : B ≤ w.heap.size := by have := lt_of_block h.top; have := h.gB; omega
  have HTake : Kp (Row3 w (some ⟨q, 0, none⟩) i (ps.take i)) := ⟨row3_take hrow h.file hin'⟩
  have hdrop := row3_drop (c := cv) hrow h.file hin1
  have HLen : Kp (nv = ps.length) := ⟨hnv⟩
  have hfile := h.file
  have HfT : Kp (∀ p ∈ ps.take i, FileC w p.1 p.2) := ⟨fun p hp => hfile p (List.mem_of_mem_take hp)⟩
  have HfD : Kp (∀ p ∈ ps.drop (i + 1), FileC w p.1 p.2) := ⟨fun p hp => hfile p (List.mem_of_mem_drop hp)⟩
  have HlT : Kp ((ps.take i).length = i) := ⟨by rw [List.length_take]; omega⟩
  have HlD : Kp ((ps.drop (i + 1)).length = nv - (i + 1)) := ⟨by rw [List.length_drop]; omega⟩
  have HN : Kp (nv ≤ 1000) := ⟨by omega⟩
  have Hin : Kp (i < nv) := ⟨hin⟩
  have HltB := Kp.mk hlt
  have HlA : Kp ((ps.take i).length + (ps.drop (i + 1)).length ≤ 100000) := ⟨by rw [HlT.out, HlD.out]; omega⟩
  have HlB : Kp (([] : List PF).length + (ps.take i).length ≤ 100000) := ⟨by rw [HlT.out]; simp; omega⟩
  have HR2 : Kp (Row3 w (if cv = i + 1 then some ⟨q, 0, none⟩ else some ⟨q, (i + 1) * 3, none⟩) (nv - (i + 1)) (ps.drop (i + 1)) ∧ ((if cv = i + 1 then some (⟨q, 0, none⟩ : Addr) else some ⟨q, (i + 1) * 3, none⟩) = none → cv - (i + 1) = 0)) := ⟨by
    by_cases hce : cv = i + 1
    · rw [if_pos hce]
      refine ⟨⟨by rw [List.length_drop, hnv], (fun e => by cases e), fun ad e j u hu => ?_⟩, fun e => by cases e⟩
      rw [List.drop_eq_nil_of_le (by omega)] at hu
      simp [flat3] at hu
    · rcases hdrop with hd | hd
      · rw [if_neg hce]
        refine ⟨?_, fun e => by cases e⟩
        rw [if_neg hce] at hd
        have e : Option.map (fun x : Addr => x.add ((i + 1) * 3)) (some ⟨q, 0, none⟩) = some ⟨q, (i + 1) * 3, none⟩ := by simp [Addr.add_lit]
        rw [e] at hd
        exact hd
      · exact absurd hd hce⟩
  have hz0 : 0 ≤ (i : Int) + 1 := by omega
  have hz1 : (i : Int) + 1 ≤ (nv : Int) := by omega
  clear h h3 hc hrow hdrop hfile hmost hi hnv hlt
  go_enter Try.func55, Try.ntmps55
  go_wp2_with fail
  go_region_law (first
    | (refine step_app3 (w0 := w) (B := B) rfl (.const (.slice none 0 0)) (.tmp 10) rfl ((Below.refl _ _).drew) (.slice none 0 0) [] (ps.take i) (some ⟨q, 0, none⟩) i cv rfl rfl (nilOwn _ _) (fun q e => by cases e) (fun p hp => by cases hp) HfT.out (HTake.out.below ((Below.refl _ _).drew)) (fun e => by cases e) HlB.out HltB.out ?_
       intro A1 n1 c1 w1 h1 h2 h3
       have d2 := cell_kept h1 d1
       have HB1 := Kp.mk h1
       have HO1 := Kp.mk (show w1.ownsRow B 88 3 (.slice A1 n1 c1) (ps.take i).length (flat3 (ps.take i)) from h2)
       have HV1 := Kp.mk h3
       clear h1 h2 h3)
    | (refine step_app3 (w0 := w) (B := B) rfl (.tmp 11) (.tmp 18) rfl HB1.out _ (ps.take i) (ps.drop (i + 1)) _ _ _ rfl rfl HO1.out HV1.out HfT.out HfD.out (HR2.out.1.below HB1.out) HR2.out.2 HlA.out HltB.out ?_
       intro A3 n3 c3 w2 h1 h2 h3
       have f2 := frozen_below h1 H.out.top 1
       have d3 := cell_kept h1 d1
       have HB2 := Kp.mk h1
       have HO2 := Kp.mk h2
       have HV2 := Kp.mk h3
       clear h1 h2 h3))
  all_goals
    go_wp2_with fail
    all_goals
      go_end0
      have hmem : ∀ p ∈ ps.take i ++ ps.drop (i + 1), p ∈ ps := fun p hp => (List.mem_append.1 hp).elim List.mem_of_mem_take List.mem_of_mem_drop
      have hmap : (ps.take i ++ ps.drop (i + 1)).map (fun p : PF => p.2) = σ.files.take i ++ σ.files.drop (i + 1) := by rw [List.map_append, List.map_take, List.map_drop, H.out.abs]
      have hR := H.out.relist HB2.out (v' := .slice A3 n3 c3) (ps' := ps.take i ++ ps.drop (i + 1)) HO2.out
        (fun p hp => H.out.file p (hmem p hp)) (fun p hp A n c hm hn => ⟨(H.out.far p (hmem p hp) A n c hm hn).1, (H.out.far p (hmem p hp) A n c hm hn).2.1⟩)
        HV2.out (by rw [hmap]; exact srt_gone H.out.srt i) (by rw [List.length_append, HlT.out, HlD.out]; have := HN.out; have := Hin.out; omega)
      rw [hmap] at hR
      exact ⟨rfl, (Fr.of_below (S := fun k => k = g) HB2.out).setCell (a := ⟨g, 1, none⟩) (.inl rfl) _, _, hR⟩
end Go.Proofs.Ytgeklapphkgdkaa.Dsk
