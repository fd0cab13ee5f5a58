import Derived.Test.YtinffeffffligaaBlZn
set_option linter.unusedVariables false
set_option linter.unusedSimpArgs false
namespace Go.Proofs.Ytinffeffffligaa.Bas
open Go.RowKit Go.Maps

/-! ### Seek; the reference's Restarts and BlockSeek -/
theorem results_cell_two {fn : Func} {p u v : Tmp} {ty : TypeId} (h : fn.results = #[.cell p ty, .tmp u, .tmp v]) (tmps : Array Value) (P : Program) (w : World) :
    (results fn tmps).run P w =
      ((asAddr (tmps.getD p undef)).run P w).andThen fun a w₁ => ((loadVar ty a).run P w₁).andThen fun x w₂ => .ok (.tuple #[x, tmps.getD u undef, tmps.getD v undef]) w₂ := by
  simp only [results, h]
  simp [Sem.run_bind, Result.andThen]
theorem ret_cpp {P : Program} {fn : Func} {R : Ending → World → Prop} {a : Act} {w : World} {ty : TypeId} {g : Nat} {t : TypeId} {cs : Array Value} {fr : Nat × Nat} {d : TypeDesc} {v5 v6 : Value} {p u v : Tmp} (h : fn.results = #[.cell p ty, .tmp u, .tmp v])
    (h4 : a.tmps.toList[p]? = some (.pointer (some ⟨g, 0, none⟩))) (h5 : a.tmps.toList[u]? = some v5) (h6 : a.tmps.toList[v]? = some v6) (hg : w.heap[g]? = some (.cells cs t fr))
    (hu : P.underlying ty = some d) (hd : (match d with | .struct _ | .array _ _ => true | _ => false) = true) (hi : (P.info? ty).map (·.size) = some cs.size) (hdf : a.defers = []) (hR : R (.returned (.tuple #[.agg cs, v5, v6])) w) : bodyPost P fn R .ret a w := by
  have e4 : a.tmps[p]?.getD undef = .pointer (some ⟨g, 0, none⟩) := by
    rw [Array.getElem?_toList] at h4
    simp [h4]
  have e5 : a.tmps.getD u undef = v5 := by
    rw [Array.getElem?_toList] at h5
    simp [h5]
  have e6 : a.tmps.getD v undef = v6 := by
    rw [Array.getElem?_toList] at h6
    simp [h6]
  have hrun : (results fn a.tmps).run P w = .ok (.tuple #[.agg cs, a.tmps.getD u undef, a.tmps.getD v undef]) w := by
    rw [results_cell_two h]
    simp [asAddr, e4, run_loadVar_row w g t ty cs fr d hg hu hd hi, Result.andThen]
  refine bodyPost_ret hrun hdf ?_
  rw [e5, e6]
  exact hR
def entZ : Value := .agg #[.slice none 0 0, .int .u64 0, .int .i64 0, .slice none 0 0]
/-- The first entry at or behind a key: at this place, or none. -/
structure FirstAt (es : List En) (k : Ky) (i : Nat) : Prop where
  lt : i < es.length
  here : 0 ≤ keyCmp (es.getD i enD).k k
  ahead : ∀ j, j < i → keyCmp (es.getD j enD).k k < 0
theorem FirstAt.one {es : List En} {k : Ky} {i j : Nat} (h : FirstAt es k i) (g : FirstAt es k j) : i = j := by
  rcases Nat.lt_trichotomy i j with hlt | he | hlt
  · have := g.ahead i hlt; have := h.here; omega
  · exact he
  · have := h.ahead j hlt; have := g.here; omega
/-- What Seek tells: ez the kind of the error. -/
def SeekQ (xs : List Int) (k : Ky) (w : World) (e : Ending) (w' : World) : Prop :=
  Below w.heap.size w w' ∧ ((∃ c, Bad xs c ∧ e = .returned (.tuple #[entZ, .bool false, .int .i64 c])) ∨
    (∃ es s, IsB xs es s ∧ ((∃ i vs, FirstAt es k i ∧ EnC w' vs (es.getD i enD) ∧ e = .returned (.tuple #[.agg vs, .bool true, .int .i64 0])) ∨
      ((∀ j, j < es.length → keyCmp (es.getD j enD).k k < 0) ∧ e = .returned (.tuple #[entZ, .bool false, .int .i64 0])))))
set_option maxHeartbeats 4000000 in
set_option maxRecDepth 100000 in
theorem ref_restarts {w : World} {A : Option Addr} {n c : Nat} {xs : List Int} (h : Rd w .u8 A n c xs) (hc : n ≤ c) (hb : Byt xs) (hn : n ≤ 1000000) : Calls Try.prog 21 #[.slice A n c] w (RstQ xs w) := by
  have hl := h.len
  have HR := Kp.mk ((ref_blockall h hc hb hn).mono fun e w' hq => rallQ hq)
  have H := Kp.mk h
  have HBy := Kp.mk hb
  clear h hb
  go_enter Try.func21, Try.ntmps21
  go_wp2_with fail
  refine HR.out.mono ?_
  rintro e w1 ⟨hb1, (⟨cc, hbad, rfl⟩ | ⟨v, ps, s, hI, rfl, how⟩)⟩
  · have HB := Kp.mk hb1
    have HBad := Kp.mk hbad
    have hne : (cc != 0) = true := by simpa using hbad.ne
    have hne2 : (cc == 0) = false := by simpa using hbad.ne
    clear hb1 hbad
    go_wp2_with fail
    go_ret2
    exact ⟨HB.out, .inl ⟨cc, HBad.out, rfl⟩⟩
  · obtain ⟨Ao, co, e3⟩ := how.slice
    subst e3
    have HB := Kp.mk hb1
    have HI := Kp.mk hI
    obtain ⟨p1, p2, p3, p4, p5⟩ := hI.parts
    have hfe := hI.fit.ends
    obtain ⟨q, hq⟩ : ∃ q, q = n - 8 := ⟨_, rfl⟩
    obtain ⟨k, hk⟩ : ∃ k, k = cntB xs := ⟨_, rfl⟩
    obtain ⟨f, hf⟩ : ∃ f, f = q - 4 * k := ⟨_, rfl⟩
    have hqn : q + 8 = n := by omega
    have hfk : f + 4 * k = q := by omega
    have hwq : IntKind.i64.wrap ((n : Int) - 8) = (q : Int) := (IntWalk.i64_in _ (by omega)).trans (by omega)
    have hkq : numB ((xs.drop q).take 4) = k := by rw [hk]; unfold cntB; rw [hl, hq]
    have hk32 : k < 4294967296 := by have := numB_at_lt HBy.out q 4; rw [hkq] at this; omega
    have hkw : IntKind.i64.wrap (k : Int) = (k : Int) := IntWalk.i64_in _ (by omega)
    have hgk := ref_getn (H.out.below hb1) HBy.out (a := q) (m := 4) (by omega) (by omega)
    rw [hkq] at hgk
    have HGk := Kp.mk hgk
    have HRe : Kp (nums4 k (xs.drop f) = restsOf xs) := ⟨by unfold restsOf; rw [hl, ← hk, ← hq, ← hf]⟩
    have HFE := Kp.mk hfe
    have Hf := Kp.mk hfk
    clear hb1 hI how p1 p2 p3 p5 hfe hq hk hf hkq hgk
    go_wp2_with fail
    refine HGk.out.mono ?_
    rintro e w2 ⟨rfl, hw2⟩
    subst hw2
    go_wp2_with fail
    go_loopw [9, 8] (fun i v wr => ∃ (j nr cr : Nat) (Ar : Option Addr), i = .int .i64 (j : Nat) ∧ v = .slice Ar nr cr ∧ j ≤ k ∧ Kp (Nu .i64 3 w.heap.size wr (.slice Ar nr cr) (intsN (nums4 j (xs.drop f)))) ∧ Kp (Below w.heap.size w wr)) (fun i _ _ => k - (intOf i).toNat)
    case atStart => exact ⟨0, 0, 0, none, rfl, rfl, Nat.zero_le _, ⟨Nu.nil _ _ _ _⟩, HB⟩
    case round =>
      obtain ⟨j, nr, cr, Ar, rfl, rfl, hj, HN, HBr⟩ := hrel
      by_cases hlt : j < k
      · obtain ⟨d, hd⟩ : ∃ d, d = k - j := ⟨_, rfl⟩
        obtain ⟨a, ha⟩ : ∃ a, a = q - 4 * d := ⟨_, rfl⟩
        have haf : a = f + 4 * j := by omega
        have hwd : IntKind.i64.wrap ((k : Int) - (j : Int)) = (d : Int) := (IntWalk.i64_in _ (by omega)).trans (by omega)
        have hw4 : IntKind.i64.wrap (4 * (d : Int)) = ((4 * d : Nat) : Int) := (IntWalk.i64_in _ (by omega)).trans (by omega)
        have hwa : IntKind.i64.wrap ((q : Int) - ((4 * d : Nat) : Int)) = (a : Int) := (IntWalk.i64_in _ (by omega)).trans (by omega)
        have hwa' : IntKind.i64.wrap ((q : Int) - 4 * (d : Int)) = (a : Int) := (IntWalk.i64_in _ (by omega)).trans (by omega)
        obtain ⟨x, hx⟩ : ∃ x, x = numB ((xs.drop a).take 4) := ⟨_, rfl⟩
        have hx32 : x < 4294967296 := by rw [hx]; exact numB_at_lt HBy.out a 4
        have hxw : IntKind.i64.wrap (x : Int) = (x : Int) := IntWalk.i64_in _ (by omega)
        have hg := ref_getn (H.out.below HBr.out) HBy.out (a := a) (m := 4) (by omega) (by omega)
        rw [← hx] at hg
        have HG := Kp.mk hg
        have HX : Kp (intsN (nums4 (j + 1) (xs.drop f)) = intsN (nums4 j (xs.drop f)) ++ [(x : Int)]) := ⟨by rw [nums4_succ, List.drop_drop, ← haf, ← hx]; simp [intsN]⟩
        have HLn : Kp (((intsN (nums4 j (xs.drop f))).length + 1) * 8 ≤ 140737488355328) := ⟨by rw [intsN_len, nums4_len]; omega⟩
        clear hg hx haf ha hd
        go_wp2_with (first
          | (go_at_call 37; refine HG.out.mono ?_; rintro e w2 ⟨rfl, hw2⟩; subst hw2)
          | (at_builtin; go_must (refine wpList_append_nu rfl (.tmp 30) (.tmp 42) 41 3 .i64 8 w.heap.size rfl Try.underlying41 Try.infoI64 eight_pos (.slice Ar nr cr) 1 1 (intsN (nums4 j (xs.drop f))) [(x : Int)] (some ⟨_, 0, none⟩) rfl rfl (HN.out.below (alloc_below _ _)) (rd_new1 _ _ _ _) HLn.out (Nat.le_trans HBr.out.size (alloc_below _ _).size) ?_); intro A9 c9 w9 h1 h2 h3; have HN9 := Kp.mk h1; have HB9 := Kp.mk (HBr.out.trans (((alloc_below _ _).mono HBr.out.size).trans h3)); clear h1 h2 h3))
        go_roundw
        case rel => exact ⟨j + 1, _, c9, A9, by go_num, rfl, by omega, ⟨by rw [HX.out]; exact HN9.out⟩, HB9⟩
        case measure => simp [intOf]; omega
      · obtain rfl : k = j := by omega
        have HN2 : Kp (Nu .i64 3 w.heap.size wr (.slice Ar nr cr) (intsN (endsB s (ps.map (fun p : Pr => p.2)) (ps.map (fun p : Pr => p.2)).length))) := ⟨by rw [← HFE.out, ← HRe.out]; exact HN.out⟩
        go_wp2_with fail
        go_ret2
        exact ⟨HBr.out, .inr ⟨_, _, s, HI.out, rfl, HN2.out⟩⟩
end Go.Proofs.Ytinffeffffligaa.Bas
