import Derived.Test.YtgfkpddmjcgceaaApD
import Derived.Test.YtgfkpddmjcgceaaApE
import Derived.Test.YtgfkpddmjcgceaaVrI
set_option linter.unusedVariables false
set_option linter.unusedSimpArgs false
namespace Go.Proofs.Ytgfkpddmjcgceaa.Kx
open Go.RowKit Go.Maps Go.Proofs.YtgfkpddmjcgceaaW.PrintWords

/-- A region that goes in the text's order, reads, and calls what makes memory: walked in whatever world that is as the old one below. -/
theorem wpList_of_quiet {P : Program} {ops : Array Oper} {C : World → Prop} {Qa : Act → Prop} {Q : Exit → Act → World → Prop} (hQ : ∀ a w, C w → Qa a → Q .normal a w) : ∀ (l : List Oper) (a : Act) (w : World), C w → wpQuiet P ops C Qa l a → wpList P ops Q l a w
  | [], a, w, hw, h => hQ a w hw h
  | o :: l, a, w, hw, h => by
    unfold wpQuiet at h
    unfold wpList
    split
    · rename_i hwa
      rw [if_pos hwa] at h
      exact .inl (Oper.wp_of_quiet hw (fun a' w' hw' hk => wpList_of_quiet hQ l a' w' hw' hk) h)
    · rename_i hwa
      rw [if_neg hwa] at h
      exact wpList_of_quiet hQ l _ w hw h
theorem wp_region_below_seq {P : Program} {id : Nat} {Q : Exit → Act → World → Prop} {a : Act} {w : World} {l : List Oper}
    (h : wpQuiet P l.toArray (fun w' => ∃ p : Blw w, w' = p.v) (fun a' => ∀ w', (∃ p : Blw w, w' = p.v) → Q .normal a' w') l a) : (Code.region id l.toArray false).wp P Q a w :=
  wp_region_lit (wpList_of_quiet (fun a w hw hq => hq w hw) l a w ⟨⟨w, Below.refl _ _⟩, rfl⟩ h)
/-- The end of a function whose results are a struct's cell (slot 4) and slot 5. -/
theorem ret_ct {P : Program} {fn : Func} {R : Ending → World → Prop} {a : Act} {w : World} {ty : TypeId} {g : Nat} {t : TypeId} {cs : Array Value} {fr : Nat × Nat} {d : TypeDesc} {v5 : Value} (h : fn.results = #[.cell 4 ty, .tmp 5])
    (h4 : a.tmps.toList[4]? = some (.pointer (some ⟨g, 0, none⟩))) (h5 : a.tmps.toList[5]? = some v5) (hg : w.heap[g]? = some (.cells cs t fr))
    (hu : P.underlying ty = some d) (hd : (match d with | .struct _ | .array _ _ => true | _ => false) = true) (hi : (P.info? ty).map (·.size) = some cs.size) (hdf : a.defers = []) (hR : R (.returned (.tuple #[.agg cs, v5])) w) : bodyPost P fn R .ret a w := by
  have e4 : a.tmps.getD 4 undef = .pointer (some ⟨g, 0, none⟩) := by
    rw [Array.getElem?_toList] at h4
    simp [h4]
  have e5 : a.tmps.getD 5 undef = v5 := by
    rw [Array.getElem?_toList] at h5
    simp [h5]
  refine bodyPost_ret (results_ct h a.tmps w g t cs fr d e4 hg hu hd hi) hdf ?_
  rw [e5]
  exact hR
theorem firstI_lt {α : Type} (p : α → Prop) (l : List α) (z : α) : ∀ n, n ≤ l.length → (∀ j, j < n → ¬ p (l.getD j z)) ∨ ∃ j, j < n ∧ p (l.getD j z) ∧ ∀ i, i < j → ¬ p (l.getD i z)
  | 0, _ => .inl (fun j hj => by omega)
  | n + 1, hn => by
    rcases firstI_lt p l z n (by omega) with h | ⟨j, hj, h1, h2⟩
    · by_cases hp : p (l.getD n z)
      · exact .inr ⟨n, by omega, hp, h⟩
      · refine .inl (fun j hj => ?_)
        by_cases hjn : j = n
        · subst hjn; exact hp
        · exact h j (by omega)
    · exact .inr ⟨j, by omega, h1, h2⟩
theorem firstI_ex {α : Type} (p : α → Prop) (l : List α) (z : α) : ∃ r, firstI p l z r := by
  rcases firstI_lt p l z l.length (Nat.le_refl _) with h | ⟨j, h0, h1, h2⟩
  · exact ⟨-1, .inl ⟨rfl, h⟩⟩
  · exact ⟨j, .inr ⟨j, rfl, h0, h1, h2⟩⟩
theorem firstI_one {α : Type} {p : α → Prop} {l : List α} {z : α} {r r' : Int} (h : firstI p l z r) (h' : firstI p l z r') : r = r' := by
  rcases h with ⟨rfl, h⟩ | ⟨j, rfl, h0, h1, h2⟩ <;> rcases h' with ⟨rfl, g⟩ | ⟨i, rfl, g0, g1, g2⟩
  · rfl
  · exact absurd g1 (h i g0)
  · exact absurd h1 (g j h0)
  · rcases Nat.lt_trichotomy i j with h3 | h3 | h3
    · exact absurd g1 (h2 i h3)
    · subst h3; rfl
    · exact absurd h1 (g2 j h3)
/-- place, its answer named. -/
theorem place_val {rs : List Rn} {f r : Int} (hr : firstI (fun a : Rn => a.file = f) rs zRn r) {W : World} {A : Option Addr} {n c : Nat} (h : kRn.C W A n rs) :
    Calls Try.prog 29 #[.slice A n c, .int .i64 f] W fun e w' => e = .returned (.int .i64 r) ∧ w' = W :=
  (ref_place f h).mono fun e w' ⟨r', he, h', hw⟩ => ⟨by rw [he, firstI_one h' hr], hw⟩
theorem place_in {rs : List Rn} {f r : Int} (hr : firstI (fun a : Rn => a.file = f) rs zRn r) (h : inF rs f) : ∃ p : Nat, r = p ∧ p < rs.length ∧ (rs.getD p zRn).file = f := by
  rcases hr with ⟨_, g⟩ | ⟨j, rfl, h0, h1, _⟩
  · obtain ⟨j, hj, e⟩ := h
    exact absurd e (g j hj)
  · exact ⟨j, rfl, h0, h1⟩
theorem place_out {rs : List Rn} {f r : Int} (hr : firstI (fun a : Rn => a.file = f) rs zRn r) (h : ¬ inF rs f) : r = -1 := by
  rcases hr with ⟨e, _⟩ | ⟨j, _, h0, h1, _⟩
  · exact e
  · exact absurd ⟨j, h0, h1⟩ h
theorem byt_out {rs add : List Rn} (h : BytRs rs) (h1 : BytRs add) (a b : Nat) : BytRs (rs.take a ++ add ++ rs.drop b) := by
  have key : ∀ {l : List Rn}, BytRs l → ∀ r, r ∈ l → Byt r.first ∧ Byt r.last := fun {l} hl r hr => by
    obtain ⟨j, hj, rfl⟩ := mem_getD (z := zRn) hr
    exact hl j hj
  intro i hi
  have hm := getD_mem (z := zRn) hi
  rcases List.mem_append.1 hm with hm | hm
  · rcases List.mem_append.1 hm with hm | hm
    · exact key h _ (List.mem_of_mem_take hm)
    · exact key h1 _ hm
  · exact key h _ (List.mem_of_mem_drop hm)
theorem short_ok {rs add : List Rn} {drop : List Int} {nx lg sq enx elg esq : Int} (h : VOk rs nx lg sq) (h1 : EOk add drop enx elg esq) : ShortRs rs ∧ ShortRs add :=
  ⟨fun i hi => by obtain ⟨_, _, _, _, _, _, _, _, h8, h9, _⟩ := (h.2.2 i hi).1; omega, fun i hi => by obtain ⟨_, _, _, _, _, _, _, _, h8, h9, _⟩ := h1.2.2.1 i hi; omega⟩
set_option maxHeartbeats 16000000 in
set_option maxRecDepth 100000 in
theorem ref_apply {w : World} {A A1 A2 : Option Addr} {n n1 n2 c c1 c2 : Nat} {rs add : List Rn} {drop : List Int} (nx lg sq enx elg esq : Int) (h : kRn.C w A n rs) (h1 : kRn.C w A1 n1 add) (h2 : (Kd.int .i64).C w A2 n2 drop) (hc2 : n2 ≤ c2) (hsq : 0 ≤ sq) (hesq : 0 ≤ esq) (hb : BytRs rs) (hb1 : BytRs add) :
    Calls Try.prog 11 #[.agg #[.slice A n c, .int .i64 nx, .int .i64 lg, .int .u64 sq], .agg #[.slice A1 n1 c1, .slice A2 n2 c2, .int .i64 enx, .int .i64 elg, .int .u64 esq]] w (ApplyQ rs nx lg sq add drop enx elg esq w) := by
  have HL := Kp.mk h.1
  have HL1 := Kp.mk h1.1
  have HL2 := Kp.mk h2.1
  have H := Kp.mk h
  have H1 := Kp.mk h1
  have H2 := Kp.mk h2
  have HBy := Kp.mk hb
  have HBy1 := Kp.mk hb1
  have hm := h.2.1
  have hm1 := h1.2.1
  have hm2 := h2.2.1
  clear h h1 h2 hb hb1
  have HJ : Kp (Jn w ((((w.alloc (.cells #[.slice A n c, .int .i64 nx, .int .i64 lg, .int .u64 sq] 27)).alloc (.cells #[.slice A1 n1 c1, .slice A2 n2 c2, .int .i64 enx, .int .i64 elg, .int .u64 esq] 31)).alloc (.cells #[.slice none 0 0, .int .i64 0, .int .i64 0, .int .u64 0] 27)).alloc (.cells #[.slice none 0 0, .int .i64 0, .int .i64 0, .int .u64 0] 27)) #[.slice A n c, .int .i64 nx, .int .i64 lg, .int .u64 sq] #[.slice A1 n1 c1, .slice A2 n2 c2, .int .i64 enx, .int .i64 elg, .int .u64 esq] (.slice none 0 0) (.int .i64 0) (.int .i64 0) (.int .u64 0) []) := ⟨by
    obtain ⟨h0, g1, g2, g3, g4⟩ := nest4 (w := w) (o1 := .cells #[.slice A n c, .int .i64 nx, .int .i64 lg, .int .u64 sq] 27) (o2 := .cells #[.slice A1 n1 c1, .slice A2 n2 c2, .int .i64 enx, .int .i64 elg, .int .u64 esq] 31) (o3 := .cells #[.slice none 0 0, .int .i64 0, .int .i64 0, .int .u64 0] 27) (o4 := .cells #[.slice none 0 0, .int .i64 0, .int .i64 0, .int .u64 0] 27) (Below.refl _ _)
    exact ⟨g1, g2, g3, g4, Kd.R_nil _ _ _ _ _, h0⟩⟩
  go_enter Try.func11, Try.ntmps11
  go_wp2_with fail
  have hcc := ref_version (c := c) nx lg sq (show kRn.C _ A rs.length rs by rw [HL.out]; exact Kd.C_below H.out HJ.out.b) HBy.out
  rw [HL.out] at hcc
  refine hcc.mono ?_
  clear hcc
  rintro e w1 ⟨b1, rfl, hv, hB1⟩
  have HV := Kp.mk hv
  have HJ1 := Kp.mk (HJ.out.below hB1)
  clear hv hB1 HJ
  cases b1 with
  | false =>
    have HR : Kp (ApplyR rs nx lg sq add drop enx elg esq 1 [] 0 0 0) := ⟨.inl ⟨rfl, (fun hh => by have := HV.out.2 hh.1; cases this), rfl, rfl, rfl, rfl⟩⟩
    have o0 := cells_top HJ1.out.z9 0 (.slice none 0 0) rfl;have r0 := cells_top HJ1.out.z8 0 (.slice none 0 0) rfl;have g0 := free_top HJ1.out.z8 0;have o1 := cells_top HJ1.out.z9 1 (.int .i64 0) rfl;have r1 := cells_top HJ1.out.z8 1 (.int .i64 0) rfl;have g1 := free_top HJ1.out.z8 1;have o2 := cells_top HJ1.out.z9 2 (.int .i64 0) rfl;have r2 := cells_top HJ1.out.z8 2 (.int .i64 0) rfl;have g2 := free_top HJ1.out.z8 2;have o3 := cells_top HJ1.out.z9 3 (.int .u64 0) rfl;have r3 := cells_top HJ1.out.z8 3 (.int .u64 0) rfl;have g3 := free_top HJ1.out.z8 3
    have HZ := Jn.ret HJ1.out
    (try simp only []); repeat (first | go_values | go_skip | go_guarded | go_step)
    try simp only [Exit.inBlock, Exit.then]
    refine @ret_ct ?P44 ?fn44 ?R44 ?a44 ?w44 ?ty44 (w.heap.size + 1 + 1) ?t44 ?cs44 ?fr44 ?d44 ?v44 ?g1x44 ?g2x44 ?g3x44 ?g4x44 ?g5x44 ?g6x44 ?g7x44 ?g8x44 ?g9x44
    (case g1x44 => exact rfl);(case g2x44 => exact rfl);(case g3x44 => exact rfl);(case g4x44 => exact HZ.1);(case g5x44 => exact Try.underlying27);(case g6x44 => exact rfl);(case g7x44 => kernel_rfl);(case g8x44 => exact rfl)
    exact ⟨1, [], 0, 0, 0, _, rfl, HR.out, Kd.R_nil _ _ _ _ _, HZ.2.2⟩
  | true =>
    have HVt := Kp.mk (HV.out.1 rfl)
    clear HV
    have e0 := cells_top HJ1.out.z5 0 (.slice A1 n1 c1) rfl;have e1 := cells_top HJ1.out.z5 1 (.slice A2 n2 c2) rfl;have e2 := cells_top HJ1.out.z5 2 (.int .i64 enx) rfl;have e3 := cells_top HJ1.out.z5 3 (.int .i64 elg) rfl;have e4 := cells_top HJ1.out.z5 4 (.int .u64 esq) rfl
    have hcc := ref_edit (c := c1) (c' := c2) (drop := drop) enx elg esq (show kRn.C _ A1 add.length add by rw [HL1.out]; exact Kd.C_below H1.out HJ1.out.b) (show (Kd.int .i64).C _ A2 drop.length drop by rw [HL2.out]; exact Kd.C_below H2.out HJ1.out.b) (by rw [HL2.out]; exact hc2) HBy1.out
    rw [HL1.out, HL2.out] at hcc
    have Hcc := Kp.mk hcc
    clear hcc
    go_wp2_with fail
    refine Hcc.out.mono ?_
    clear Hcc e0 e1 e2 e3 e4
    rintro e w2 ⟨b2, rfl, hv, hB2⟩
    have HE := Kp.mk hv
    have HJ2 := Kp.mk (HJ1.out.below hB2)
    clear hv hB2 HJ1
    cases b2 with
    | false =>
      have HR : Kp (ApplyR rs nx lg sq add drop enx elg esq 1 [] 0 0 0) := ⟨.inl ⟨rfl, (fun hh => by have := HE.out.2 hh.2; cases this), rfl, rfl, rfl, rfl⟩⟩
      have o0 := cells_top HJ2.out.z9 0 (.slice none 0 0) rfl;have r0 := cells_top HJ2.out.z8 0 (.slice none 0 0) rfl;have g0 := free_top HJ2.out.z8 0;have o1 := cells_top HJ2.out.z9 1 (.int .i64 0) rfl;have r1 := cells_top HJ2.out.z8 1 (.int .i64 0) rfl;have g1 := free_top HJ2.out.z8 1;have o2 := cells_top HJ2.out.z9 2 (.int .i64 0) rfl;have r2 := cells_top HJ2.out.z8 2 (.int .i64 0) rfl;have g2 := free_top HJ2.out.z8 2;have o3 := cells_top HJ2.out.z9 3 (.int .u64 0) rfl;have r3 := cells_top HJ2.out.z8 3 (.int .u64 0) rfl;have g3 := free_top HJ2.out.z8 3
      have HZ := Jn.ret HJ2.out
      (try simp only []); repeat (first | go_values | go_skip | go_guarded | go_step)
      try simp only [Exit.inBlock, Exit.then]
      refine @ret_ct ?P91 ?fn91 ?R91 ?a91 ?w91 ?ty91 (w.heap.size + 1 + 1) ?t91 ?cs91 ?fr91 ?d91 ?v91 ?g1x91 ?g2x91 ?g3x91 ?g4x91 ?g5x91 ?g6x91 ?g7x91 ?g8x91 ?g9x91
      (case g1x91 => exact rfl);(case g2x91 => exact rfl);(case g3x91 => exact rfl);(case g4x91 => exact HZ.1);(case g5x91 => exact Try.underlying27);(case g6x91 => exact rfl);(case g7x91 => kernel_rfl);(case g8x91 => exact rfl)
      exact ⟨1, [], 0, 0, 0, _, rfl, HR.out, Kd.R_nil _ _ _ _ _, HZ.2.2⟩
    | true =>
      have HEt := Kp.mk (HE.out.1 rfl)
      clear HE
      have HN : Kp (n ≤ 1000 ∧ n1 ≤ 100 ∧ n2 ≤ 100) := ⟨by have h3 := HVt.out.1.1; have h4 := HEt.out.1.1; have h5 := HEt.out.1.2.1; rw [HL.out] at h3; rw [HL1.out] at h4; rw [HL2.out] at h5; exact ⟨h3, h4, h5⟩⟩
      have hn := HN.out.1
      have hn1 := HN.out.2.1
      have hn2 := HN.out.2.2
      have HJ := HJ2
      clear HJ2
      have v0 := cells_top HJ.out.z4 0 (.slice A n c) rfl;have e1 := cells_top HJ.out.z5 1 (.slice A2 n2 c2) rfl
      go_wp2_with fail
      go_loopw [7, 8, 9] (fun lo hi i wr => ∃ (k : Nat) (a b : Int), k ≤ n2 ∧ lo = .int .i64 a ∧ hi = .int .i64 b ∧ i = .int .i64 k ∧ Kp (LowHigh rs drop k a b) ∧ Kp (Jn w wr #[.slice A n c, .int .i64 nx, .int .i64 lg, .int .u64 sq] #[.slice A1 n1 c1, .slice A2 n2 c2, .int .i64 enx, .int .i64 elg, .int .u64 esq] (.slice none 0 0) (.int .i64 0) (.int .i64 0) (.int .u64 0) [])) (fun _ _ i _ => n2 - (intOf i).toNat)
      case atStart => exact ⟨0, n, -1, Nat.zero_le _, rfl, rfl, rfl, ⟨by have := lh_start rs drop; rwa [HL.out] at this⟩, HJ⟩
      case round =>
        clear HJ v0 e1
        obtain ⟨k, lo, hi, hk, rfl, rfl, rfl, HLH, HJ⟩ := hrel
        have v0 := cells_top HJ.out.z4 0 (.slice A n c) rfl;have e1 := cells_top HJ.out.z5 1 (.slice A2 n2 c2) rfl
        by_cases hlt : k < n2
        · have hki : (k : Int) < (n2 : Int) := by omega
          obtain ⟨ad, e7, x0⟩ := ints_at (Kd.C_below H2.out HJ.out.b) k hlt
          subst e7
          obtain ⟨f, hf⟩ : ∃ f, drop.getD k 0 = f := ⟨_, rfl⟩
          rw [hf] at x0
          have Hf := Kp.mk hf
          clear hf
          obtain ⟨r, hr⟩ := firstI_ex (fun a : Rn => a.file = f) rs zRn
          by_cases hin : inF rs f
          · obtain ⟨p, rfl, hp, hpf⟩ := place_in hr hin
            have Hst := Kp.mk (lh_step HVt.out.2.1 HLH.out hp (by rw [hpf, Hf.out]))
            have HPr := Kp.mk hr
            have p9 : (p : Int) ≤ 1000 := by have := HL.out; omega
            have p8 : ¬ (p : Int) < 0 := by omega
            clear hr hin hp hpf
            go_wp2_with fail
            go_quiet ((go_at_call 29; exact Calls.quiet_of_same (place_val HPr.out (Kd.C_drewN (Kd.C_below H.out HJ.out.b) _))))
            have HJd := Kp.mk (HJ.out.below (pw_below_drewN (Below.refl _ _) 1))
            by_cases ha : (p : Int) < lo
            · skip
              have ba : decide ((p : Int) < lo) = true := decide_eq_true (by omega)
              by_cases hb : hi < (p : Int)
              · skip
                have bb : decide (hi < (p : Int)) = true := decide_eq_true (by omega)
                have HLN : Kp (LowHigh rs drop (k + 1) p p) := ⟨by have := Hst.out; rwa [if_pos ha, if_pos hb] at this⟩
                clear ha hb Hst
                go_wp2_with fail
                go_roundw
                case rel => exact ⟨k + 1, _, _, by omega, rfl, rfl, by go_num, HLN, ⟨HJ.out.below (pw_below_drewN (Below.refl _ _) _)⟩⟩
                case measure => simp [intOf]; omega
              · skip
                have bb : decide (hi < (p : Int)) = false := decide_eq_false (by omega)
                have HLN : Kp (LowHigh rs drop (k + 1) p hi) := ⟨by have := Hst.out; rwa [if_pos ha, if_neg hb] at this⟩
                clear ha hb Hst
                go_wp2_with fail
                go_roundw
                case rel => exact ⟨k + 1, _, _, by omega, rfl, rfl, by go_num, HLN, ⟨HJ.out.below (pw_below_drewN (Below.refl _ _) _)⟩⟩
                case measure => simp [intOf]; omega
            · skip
              have ba : decide ((p : Int) < lo) = false := decide_eq_false (by omega)
              by_cases hb : hi < (p : Int)
              · skip
                have bb : decide (hi < (p : Int)) = true := decide_eq_true (by omega)
                have HLN : Kp (LowHigh rs drop (k + 1) lo p) := ⟨by have := Hst.out; rwa [if_neg ha, if_pos hb] at this⟩
                clear ha hb Hst
                go_wp2_with fail
                go_roundw
                case rel => exact ⟨k + 1, _, _, by omega, rfl, rfl, by go_num, HLN, ⟨HJ.out.below (pw_below_drewN (Below.refl _ _) _)⟩⟩
                case measure => simp [intOf]; omega
              · skip
                have bb : decide (hi < (p : Int)) = false := decide_eq_false (by omega)
                have HLN : Kp (LowHigh rs drop (k + 1) lo hi) := ⟨by have := Hst.out; rwa [if_neg ha, if_neg hb] at this⟩
                clear ha hb Hst
                go_wp2_with fail
                go_roundw
                case rel => exact ⟨k + 1, _, _, by omega, rfl, rfl, by go_num, HLN, ⟨HJ.out.below (pw_below_drewN (Below.refl _ _) _)⟩⟩
                case measure => simp [intOf]; omega
          · obtain rfl := place_out hr hin
            have HR : Kp (ApplyR rs nx lg sq add drop enx elg esq 8 [] 0 0 0) := ⟨.inr ⟨⟨HVt.out, HEt.out⟩, .inl ⟨rfl, (fun hh => hin (by have := hh k (by have := HL2.out; omega); rwa [Hf.out] at this)), rfl, rfl, rfl, rfl⟩⟩⟩
            have HPr := Kp.mk hr
            clear hr hin
            go_wp2_with fail
            go_quiet ((go_at_call 29; exact Calls.quiet_of_same (place_val HPr.out (Kd.C_drewN (Kd.C_below H.out HJ.out.b) _))))
            rename_i nq
            have HJd := Kp.mk (HJ.out.below (pw_below_drewN (Below.refl _ _) nq))
            have o0 := cells_top HJd.out.z9 0 (.slice none 0 0) rfl;have r0 := cells_top HJd.out.z8 0 (.slice none 0 0) rfl;have g0 := free_top HJd.out.z8 0;have o1 := cells_top HJd.out.z9 1 (.int .i64 0) rfl;have r1 := cells_top HJd.out.z8 1 (.int .i64 0) rfl;have g1 := free_top HJd.out.z8 1;have o2 := cells_top HJd.out.z9 2 (.int .i64 0) rfl;have r2 := cells_top HJd.out.z8 2 (.int .i64 0) rfl;have g2 := free_top HJd.out.z8 2;have o3 := cells_top HJd.out.z9 3 (.int .u64 0) rfl;have r3 := cells_top HJd.out.z8 3 (.int .u64 0) rfl;have g3 := free_top HJd.out.z8 3
            have HZ := Jn.ret HJd.out
            (try simp only []); repeat (first | go_values | go_skip | go_guarded | go_step)
            try simp only [Exit.inBlock, Exit.then]
            refine @ret_ct ?P201 ?fn201 ?R201 ?a201 ?w201 ?ty201 (w.heap.size + 1 + 1) ?t201 ?cs201 ?fr201 ?d201 ?v201 ?g1x201 ?g2x201 ?g3x201 ?g4x201 ?g5x201 ?g6x201 ?g7x201 ?g8x201 ?g9x201
            (case g1x201 => exact rfl);(case g2x201 => exact rfl);(case g3x201 => exact rfl);(case g4x201 => exact HZ.1);(case g5x201 => exact Try.underlying27);(case g6x201 => exact rfl);(case g7x201 => kernel_rfl);(case g8x201 => exact rfl)
            exact ⟨8, [], 0, 0, 0, _, rfl, HR.out, Kd.R_nil _ _ _ _ _, HZ.2.2⟩
        · obtain rfl : n2 = k := by omega
          have HLF : Kp (LowHigh rs drop drop.length lo hi) := ⟨by have := HLH.out; rwa [← HL2.out] at this⟩
          have HAll : Kp (allIn rs drop) := ⟨fun i hi => HLF.out.1 i hi⟩
          clear HLH hlt
          have HLo : Kp (0 < n2 → ∃ a b : Nat, lo = a ∧ hi = b ∧ a ≤ b ∧ b < rs.length ∧ IsAt rs drop a) := ⟨fun h => lh_at HLF.out (by have := HL2.out; omega)⟩
          clear v0
          go_wp2_with fail
          go_loopw [11] (fun i wr => ∃ k : Nat, k ≤ n1 ∧ i = .int .i64 k ∧ Kp (∀ i, i < k → ¬ (inF rs (add.getD i zRn).file ∧ (add.getD i zRn).file ∉ drop)) ∧ Kp (Jn w wr #[.slice A n c, .int .i64 nx, .int .i64 lg, .int .u64 sq] #[.slice A1 n1 c1, .slice A2 n2 c2, .int .i64 enx, .int .i64 elg, .int .u64 esq] (.slice none 0 0) (.int .i64 0) (.int .i64 0) (.int .u64 0) [])) (fun i _ => n1 - (intOf i).toNat)
          case atStart => exact ⟨0, Nat.zero_le _, rfl, ⟨by omega⟩, HJ⟩
          case round =>
            clear HJ e1
            obtain ⟨k, hk2, rfl, HNo, HJ⟩ := hrel
            have v0 := cells_top HJ.out.z4 0 (.slice A n c) rfl;have e0 := cells_top HJ.out.z5 0 (.slice A1 n1 c1) rfl;have e1 := cells_top HJ.out.z5 1 (.slice A2 n2 c2) rfl
            by_cases hlt : k < n1
            · have hki : (k : Int) < (n1 : Int) := by omega
              obtain ⟨ad, A3, c3, A4, c4, e7, d0, _⟩ := rn_at (Kd.C_below H1.out HJ.out.b) k hlt
              subst e7
              obtain ⟨f, hf⟩ : ∃ f, (add.getD k zRn).file = f := ⟨_, rfl⟩
              rw [hf] at d0
              have Hf := Kp.mk hf
              clear hf
              obtain ⟨r, hr⟩ := firstI_ex (fun a : Rn => a.file = f) rs zRn
              by_cases hin : inF rs f
              · obtain ⟨p, rfl, hp, hpf⟩ := place_in hr hin
                have p8 : decide ((0 : Int) ≤ (p : Int)) = true := decide_eq_true (by omega)
                clear hp hpf
                by_cases hdr : f ∈ drop
                · have Hd : Kp (decide (f ∈ drop) = true) := ⟨decide_eq_true hdr⟩
                  have Hn : Kp (∀ i, i < k + 1 → ¬ (inF rs (add.getD i zRn).file ∧ (add.getD i zRn).file ∉ drop)) := ⟨fun i hi => by
                      by_cases hik : i = k
                      · subst hik; rw [Hf.out]; exact fun h => h.2 hdr
                      · exact HNo.out i (by omega)⟩
                  have HPr := Kp.mk hr
                  clear hr
                  clear hin hdr
                  go_wp2_with fail
                  go_quiet (((first | (go_at_call 29; exact Calls.quiet_of_same (place_val HPr.out (Kd.C_drewN (Kd.C_below H.out HJ.out.b) _))) | (go_at_call 30; exact Calls.quiet_of_same ((ref_has f (Kd.C_drewN (Kd.C_below H2.out HJ.out.b) _)).mono (fun e w' h => ⟨by rw [h.1, Hd.out], h.2⟩))))))
                  go_wp2_with fail
                  go_roundw
                  case rel => exact ⟨k + 1, by omega, by go_num, Hn, ⟨HJ.out.below (pw_below_drewN (Below.refl _ _) _)⟩⟩
                  case measure => simp [intOf]; omega
                · have Hd : Kp (decide (f ∈ drop) = false) := ⟨decide_eq_false hdr⟩
                  have HR : Kp (ApplyR rs nx lg sq add drop enx elg esq 9 [] 0 0 0) := ⟨.inr ⟨⟨HVt.out, HEt.out⟩, .inr ⟨HAll.out, .inl ⟨rfl, ⟨k, by have := HL1.out; omega, by rw [Hf.out]; exact ⟨hin, hdr⟩⟩, rfl, rfl, rfl, rfl⟩⟩⟩⟩
                  have HPr := Kp.mk hr
                  clear hr hin hdr
                  go_wp2_with fail
                  go_quiet (((first | (go_at_call 29; exact Calls.quiet_of_same (place_val HPr.out (Kd.C_drewN (Kd.C_below H.out HJ.out.b) _))) | (go_at_call 30; exact Calls.quiet_of_same ((ref_has f (Kd.C_drewN (Kd.C_below H2.out HJ.out.b) _)).mono (fun e w' h => ⟨by rw [h.1, Hd.out], h.2⟩))))))
                  rename_i nq
                  have HJd := Kp.mk (HJ.out.below (pw_below_drewN (Below.refl _ _) nq))
                  have o0 := cells_top HJd.out.z9 0 (.slice none 0 0) rfl;have r0 := cells_top HJd.out.z8 0 (.slice none 0 0) rfl;have g0 := free_top HJd.out.z8 0;have o1 := cells_top HJd.out.z9 1 (.int .i64 0) rfl;have r1 := cells_top HJd.out.z8 1 (.int .i64 0) rfl;have g1 := free_top HJd.out.z8 1;have o2 := cells_top HJd.out.z9 2 (.int .i64 0) rfl;have r2 := cells_top HJd.out.z8 2 (.int .i64 0) rfl;have g2 := free_top HJd.out.z8 2;have o3 := cells_top HJd.out.z9 3 (.int .u64 0) rfl;have r3 := cells_top HJd.out.z8 3 (.int .u64 0) rfl;have g3 := free_top HJd.out.z8 3
                  have HZ := Jn.ret HJd.out
                  (try simp only []); repeat (first | go_values | go_skip | go_guarded | go_step)
                  try simp only [Exit.inBlock, Exit.then]
                  refine @ret_ct ?P277 ?fn277 ?R277 ?a277 ?w277 ?ty277 (w.heap.size + 1 + 1) ?t277 ?cs277 ?fr277 ?d277 ?v277 ?g1x277 ?g2x277 ?g3x277 ?g4x277 ?g5x277 ?g6x277 ?g7x277 ?g8x277 ?g9x277
                  (case g1x277 => exact rfl);(case g2x277 => exact rfl);(case g3x277 => exact rfl);(case g4x277 => exact HZ.1);(case g5x277 => exact Try.underlying27);(case g6x277 => exact rfl);(case g7x277 => kernel_rfl);(case g8x277 => exact rfl)
                  exact ⟨9, [], 0, 0, 0, _, rfl, HR.out, Kd.R_nil _ _ _ _ _, HZ.2.2⟩
              · obtain rfl := place_out hr hin
                have p8 : decide ((0 : Int) ≤ (-1 : Int)) = false := rfl
                have Hd : Kp (decide (f ∈ drop) = decide (f ∈ drop)) := ⟨rfl⟩
                have Hn : Kp (∀ i, i < k + 1 → ¬ (inF rs (add.getD i zRn).file ∧ (add.getD i zRn).file ∉ drop)) := ⟨fun i hi => by
                    by_cases hik : i = k
                    · subst hik; rw [Hf.out]; exact fun h => hin h.1
                    · exact HNo.out i (by omega)⟩
                have HPr := Kp.mk hr
                clear hr
                clear hin
                go_wp2_with fail
                go_quiet (((first | (go_at_call 29; exact Calls.quiet_of_same (place_val HPr.out (Kd.C_drewN (Kd.C_below H.out HJ.out.b) _))) | (go_at_call 30; exact Calls.quiet_of_same ((ref_has f (Kd.C_drewN (Kd.C_below H2.out HJ.out.b) _)).mono (fun e w' h => ⟨by rw [h.1, Hd.out], h.2⟩))))))
                go_wp2_with fail
                go_roundw
                case rel => exact ⟨k + 1, by omega, by go_num, Hn, ⟨HJ.out.below (pw_below_drewN (Below.refl _ _) _)⟩⟩
                case measure => simp [intOf]; omega
            · obtain rfl : n1 = k := by omega
              have HNt : Kp (¬ twice rs add drop) := ⟨fun ⟨i, hi, h⟩ => HNo.out i (by have := HL1.out; omega) h⟩
              clear HNo hlt hk2
              have w1' : IntKind.i64.wrap ((n : Int) - (n2 : Int)) = (n : Int) - (n2 : Int) := IntWalk.i64_in _ ⟨by omega, by omega⟩
              have w2' : IntKind.i64.wrap ((n : Int) - (n2 : Int) + (n1 : Int)) = (n : Int) - (n2 : Int) + (n1 : Int) := IntWalk.i64_in _ ⟨by omega, by omega⟩
              have HSR : Kp (ShortRs rs ∧ ShortRs add) := ⟨short_ok HVt.out HEt.out⟩
              by_cases hd0 : n2 = 0
              · subst hd0
                obtain rfl : drop = [] := List.eq_nil_of_length_eq_zero HL2.out
                have w5' : IntKind.i64.wrap ((n : Int) + (n1 : Int)) = (n : Int) + (n1 : Int) := IntWalk.i64_in _ ⟨by omega, by omega⟩
                by_cases hlong : (1000 : Int) < (n : Int) + (n1 : Int)
                · have bl : decide ((1000 : Int) < (n : Int) + (n1 : Int)) = true := decide_eq_true hlong
                  have HR : Kp (ApplyR rs nx lg sq add [] enx elg esq 3 [] 0 0 0) := ⟨.inr ⟨⟨HVt.out, HEt.out⟩, .inr ⟨HAll.out, .inr ⟨HNt.out, .inl ⟨rfl, by rw [HL.out, HL1.out, HL2.out]; omega, rfl, rfl, rfl, rfl⟩⟩⟩⟩⟩
                  clear hlong
                  have o0 := cells_top HJ.out.z9 0 (.slice none 0 0) rfl;have r0 := cells_top HJ.out.z8 0 (.slice none 0 0) rfl;have g0 := free_top HJ.out.z8 0;have o1 := cells_top HJ.out.z9 1 (.int .i64 0) rfl;have r1 := cells_top HJ.out.z8 1 (.int .i64 0) rfl;have g1 := free_top HJ.out.z8 1;have o2 := cells_top HJ.out.z9 2 (.int .i64 0) rfl;have r2 := cells_top HJ.out.z8 2 (.int .i64 0) rfl;have g2 := free_top HJ.out.z8 2;have o3 := cells_top HJ.out.z9 3 (.int .u64 0) rfl;have r3 := cells_top HJ.out.z8 3 (.int .u64 0) rfl;have g3 := free_top HJ.out.z8 3
                  have HZ := Jn.ret HJ.out
                  (try simp only []); repeat (first | go_values | go_skip | go_guarded | go_step)
                  try simp only [Exit.inBlock, Exit.then]
                  refine @ret_ct ?P332 ?fn332 ?R332 ?a332 ?w332 ?ty332 (w.heap.size + 1 + 1) ?t332 ?cs332 ?fr332 ?d332 ?v332 ?g1x332 ?g2x332 ?g3x332 ?g4x332 ?g5x332 ?g6x332 ?g7x332 ?g8x332 ?g9x332
                  (case g1x332 => exact rfl);(case g2x332 => exact rfl);(case g3x332 => exact rfl);(case g4x332 => exact HZ.1);(case g5x332 => exact Try.underlying27);(case g6x332 => exact rfl);(case g7x332 => kernel_rfl);(case g8x332 => exact rfl)
                  exact ⟨3, [], 0, 0, 0, _, rfl, HR.out, Kd.R_nil _ _ _ _ _, HZ.2.2⟩
                · have bl : decide ((1000 : Int) < (n : Int) + (n1 : Int)) = false := decide_eq_false hlong
                  have HLe : Kp ((rs.length : Int) - ([] : List Int).length + add.length ≤ 1000) := ⟨by rw [HL.out, HL1.out, HL2.out]; omega⟩
                  clear hlong
                  have HIs : Kp (IsAt rs [] 0) := ⟨.inl ⟨rfl, fun j _ => by simp⟩⟩
                  have HRow : Kp (RowAt rs [] 0) := ⟨⟨by simp, fun i h1 h2 => by simp at h2⟩⟩
                  have HJn := Kp.mk (by have := ref_join (A2 := A2) (n2 := 0) (c := c) (c1 := c1) (c2 := c2) nx lg sq enx elg esq 0 0 (Kd.C_below H.out HJ.out.b) (Kd.C_below H1.out HJ.out.b) (Nat.le_refl _) (Nat.zero_le _) hn hn1 HSR.out.1 HSR.out.2 hesq; rewrite [show ((0 : Nat) : Int) - 1 = -1 from rfl, show ((0 : Nat) : Int) = 0 from rfl] at this; exact this)
                  have v0 := cells_top HJ.out.z4 0 (.slice A n c) rfl;have v1 := cells_top HJ.out.z4 1 (.int .i64 nx) rfl;have v2 := cells_top HJ.out.z4 2 (.int .i64 lg) rfl;have v3 := cells_top HJ.out.z4 3 (.int .u64 sq) rfl;have e0 := cells_top HJ.out.z5 0 (.slice A1 n1 c1) rfl;have e1 := cells_top HJ.out.z5 1 (.slice A2 0 c2) rfl;have e2 := cells_top HJ.out.z5 2 (.int .i64 enx) rfl;have e3 := cells_top HJ.out.z5 3 (.int .i64 elg) rfl;have e4 := cells_top HJ.out.z5 4 (.int .u64 esq) rfl
                  go_wp2_with fail
                  refine HJn.out.mono ?_
                  clear HJn v0 v1 v2 v3 e0 e1 e2 e3 e4
                  rintro e w5 ⟨v5, rfl, hR5, hb5⟩
                  have HOut : Kp (outL rs add [] 0 = rs.take 0 ++ add ++ rs.drop 0) := ⟨by unfold outL; rw [HL2.out]⟩
                  rw [← HOut.out] at hR5
                  have HLO : Kp ((outL rs add [] 0).length ≤ 1200) := ⟨by rw [HOut.out, List.length_append, List.length_append, List.length_take, List.length_drop]; have := HL.out; have := HL1.out; omega⟩
                  have HByO : Kp (BytRs (outL rs add [] 0)) := ⟨by rw [HOut.out]; exact byt_out HBy.out HBy1.out _ _⟩
                  obtain ⟨A5, c5, rfl⟩ := Kd.R_slice hR5
                  obtain ⟨O, hO⟩ : ∃ O, O = outL rs add [] 0 := ⟨_, rfl⟩
                  rw [← hO] at hR5 HLO HByO
                  obtain ⟨m5, hm5⟩ : ∃ m5, m5 = O.length := ⟨_, rfl⟩
                  rw [← hO, ← hm5]
                  rw [← hm5] at hR5 HLO
                  obtain ⟨a', ha'⟩ : ∃ a', a' = laterI nx enx := ⟨_, rfl⟩
                  obtain ⟨b', hb'⟩ : ∃ b', b' = laterI lg elg := ⟨_, rfl⟩
                  obtain ⟨s', hs'⟩ : ∃ s', s' = outS sq esq := ⟨_, rfl⟩
                  rw [← ha', ← hb', ← hs']
                  have HO := Kp.mk hO
                  have Hm5 := Kp.mk hm5
                  have Ha' := Kp.mk ha'
                  have Hb' := Kp.mk hb'
                  have Hs' := Kp.mk hs'
                  clear hO hm5 ha' hb' hs'
                  have HJ6 := Kp.mk ((HJ.out.below hb5).below (alloc_below _ (.cells #[.slice A5 m5 c5, .int .i64 a', .int .i64 b', .int .u64 s'] 27)))
                  have HR6 := Kp.mk (Kd.R_alloc hR5 (.cells #[.slice A5 m5 c5, .int .i64 a', .int .i64 b', .int .u64 s'] 27))
                  have HSz := Kp.mk HJ.out.b.size
                  have HZ6 := Kp.mk (heap_alloc_new w5 (.cells #[.slice A5 m5 c5, .int .i64 a', .int .i64 b', .int .u64 s'] 27))
                  clear hR5 hb5 HJ
                  have HJ := HJ6
                  clear HJ6
                  have v1 := cells_top HJ.out.z4 1 (.int .i64 nx) rfl;have v2 := cells_top HJ.out.z4 2 (.int .i64 lg) rfl;have v3 := cells_top HJ.out.z4 3 (.int .u64 sq) rfl;have e2 := cells_top HJ.out.z5 2 (.int .i64 enx) rfl;have e3 := cells_top HJ.out.z5 3 (.int .i64 elg) rfl;have e4 := cells_top HJ.out.z5 4 (.int .u64 esq) rfl;have q0 := cells_top HZ6.out 0 (.slice A5 m5 c5) rfl;have q1 := cells_top HZ6.out 1 (.int .i64 a') rfl;have q2 := cells_top HZ6.out 2 (.int .i64 b') rfl;have q3 := cells_top HZ6.out 3 (.int .u64 s') rfl
                  have HBad : Kp (¬ GoodAt rs nx lg sq add [] enx elg esq 0 → ApplyR rs nx lg sq add [] enx elg esq 10 [] 0 0 0) := ⟨fun hg => .inr ⟨⟨HVt.out, HEt.out⟩, .inr ⟨HAll.out, .inr ⟨HNt.out, .inr ⟨HLe.out, 0, HIs.out, .inr ⟨HRow.out, .inl ⟨rfl, hg, rfl, rfl, rfl, rfl⟩⟩⟩⟩⟩⟩⟩
                  have HGd : Kp (GoodAt rs nx lg sq add [] enx elg esq 0 → ApplyR rs nx lg sq add [] enx elg esq 0 O a' b' s') := ⟨fun hg => .inr ⟨⟨HVt.out, HEt.out⟩, .inr ⟨HAll.out, .inr ⟨HNt.out, .inr ⟨HLe.out, 0, HIs.out, .inr ⟨HRow.out, .inr ⟨rfl, hg, HO.out, Ha'.out, Hb'.out, Hs'.out⟩⟩⟩⟩⟩⟩⟩
                  clear q0 q1 q2 q3
                  have Bv1 := blw_cell v1;have Bv2 := blw_cell v2;have Bv3 := blw_cell v3;have Be2 := blw_cell e2;have Be3 := blw_cell e3;have Be4 := blw_cell e4
                  clear v1 v2 v3 e2 e3 e4
                  have Bq0 := blw_cell (cells_top HZ6.out 0 (.slice A5 m5 c5) rfl);have Bq1 := blw_cell (cells_top HZ6.out 1 (.int .i64 a') rfl);have Bq2 := blw_cell (cells_top HZ6.out 2 (.int .i64 b') rfl);have Bq3 := blw_cell (cells_top HZ6.out 3 (.int .u64 s') rfl)
                  go_upto_region 29 with (fail)
                  by_cases h0 : enx = 0
                  · have t0 : (enx != 0) = false := by simpa using h0
                    have G1 : Kp (laterB nx enx = true) := ⟨by simp [laterB, h0]⟩
                    clear h0
                    by_cases h1 : elg = 0
                    · have t1 : (elg != 0) = false := by simpa using h1
                      have G2 : Kp (laterB lg elg = true) := ⟨by simp [laterB, h1]⟩
                      clear h1
                      by_cases h2 : esq = 0
                      · have t2 : (esq != 0) = false := by simpa using h2
                        have G3 : Kp (sq ≤ outS sq esq) := ⟨by unfold outS; rw [if_neg (by omega)]; exact Int.le_refl _⟩
                        clear h2
                        by_cases hvo : VOk O a' b' s'
                        · have HRV : Kp (∀ W, Below (w5.alloc (.cells #[.slice A5 m5 c5, .int .i64 a', .int .i64 b', .int .u64 s'] 27)).heap.size (w5.alloc (.cells #[.slice A5 m5 c5, .int .i64 a', .int .i64 b', .int .u64 s'] 27)) W → Calls Try.prog 17 #[.agg #[.slice A5 m5 c5, .int .i64 a', .int .i64 b', .int .u64 s']] W (fun e w' => e = .returned (.bool true) ∧ Below W.heap.size W w')) := ⟨fun W hW => by
                              have hcc := ref_version (c := c5) a' b' s' (show kRn.C W A5 O.length O from Kd.C_below (Kd.R_reads' HR6.out).2.2 hW) HByO.out
                              rw [← Hm5.out] at hcc
                              exact hcc.mono (fun e w' ⟨b, he, hb, hB⟩ => ⟨by rw [he, hb.2 hvo], hB⟩)⟩
                          have HR := Kp.mk (HGd.out ⟨G1.out, G2.out, G3.out, by rw [HO.out, Ha'.out, Hb'.out, Hs'.out] at hvo; exact hvo⟩)
                          clear hvo HBad HGd
                          have PK := Kp.mk (And.intro HR.out (And.intro HJ.out (And.intro HZ6.out (And.intro HR6.out HSz.out))))
                          (try clear HR);(try clear HJ);(try clear HZ6);(try clear HR6);(try clear HSz);(try clear H);(try clear H1);(try clear H2);(try clear HBy);(try clear HBy1);(try clear HVt);(try clear HEt);(try clear HN);(try clear HLF);(try clear HAll);(try clear HLo);(try clear HNt);(try clear HSR);(try clear HIs);(try clear HRow);(try clear HLe);(try clear HOut);(try clear HLO);(try clear HByO);(try clear HO);(try clear Hm5);(try clear Ha');(try clear Hb');(try clear Hs');(try clear G1);(try clear G2);(try clear G3);(try clear HBad);(try clear HGd);(try clear hn);(try clear hn1);(try clear hn2);(try clear hm);(try clear hm1);(try clear hm2);(try clear hsq);(try clear hesq);(try clear hc2);(try clear w1');(try clear w2');(try clear w5');(try clear w3');(try clear w4');(try clear bl);(try clear bd);(try clear bd2);(try clear bx);(try clear Hbb);(try clear hab);(try clear hbr);(try clear HL);(try clear HL1);(try clear HL2);(try clear hk);(try clear hd0);(try clear e1)
                          refine wp_region_below_seq ?_
                          repeat (first | go_big_quiet_step ((go_at_call 17; exact calls_blw (HRV.out _ (Blw.h _)))) | quiet_step ((go_at_call 17; exact calls_blw (HRV.out _ (Blw.h _)))))
                          refine wpQuiet_nil ?_
                          rintro _ ⟨pq, rfl⟩
                          have HR := Kp.mk PK.out.1
                          have HJ7 := Kp.mk (PK.out.2.1.below pq.h)
                          have HZ7 := Kp.mk ((pq.h.block _ (lt_of_block PK.out.2.2.1)).trans PK.out.2.2.1)
                          have HR7 := Kp.mk (Kd.R_below PK.out.2.2.2.1 pq.h)
                          have HSz := Kp.mk PK.out.2.2.2.2
                          clear Bv1 Bv2 Bv3 Be2 Be3 Be4 Bq0 Bq1 Bq2 Bq3 PK
                          clear HRV
                          have q0 := cells_top HZ7.out 0 (.slice A5 m5 c5) rfl;have q1 := cells_top HZ7.out 1 (.int .i64 a') rfl;have q2 := cells_top HZ7.out 2 (.int .i64 b') rfl;have q3 := cells_top HZ7.out 3 (.int .u64 s') rfl;have r0 := cells_top HJ7.out.z8 0 (.slice none 0 0) rfl;have g0 := free_top HJ7.out.z8 0;have r1 := cells_top HJ7.out.z8 1 (.int .i64 0) rfl;have g1 := free_top HJ7.out.z8 1;have r2 := cells_top HJ7.out.z8 2 (.int .i64 0) rfl;have g2 := free_top HJ7.out.z8 2;have r3 := cells_top HJ7.out.z8 3 (.int .u64 0) rfl;have g3 := free_top HJ7.out.z8 3
                          have HZ := laid4 HJ7.out.z8 (.slice A5 m5 c5) (.int .i64 a') (.int .i64 b') (.int .u64 s')
                          have HP := Kp.mk (put_R (Kd.R_lower HR7.out HSz.out) HJ7.out.z8 (.slice A5 m5 c5) (.int .i64 a') (.int .i64 b') (.int .u64 s'))
                          (try simp only []); repeat (first | go_values | go_skip | go_guarded | go_step)
                          try simp only [Exit.inBlock, Exit.then]
                          refine @ret_ct ?P521 ?fn521 ?R521 ?a521 ?w521 ?ty521 (w.heap.size + 1 + 1) ?t521 ?cs521 ?fr521 ?d521 ?v521 ?g1x521 ?g2x521 ?g3x521 ?g4x521 ?g5x521 ?g6x521 ?g7x521 ?g8x521 ?g9x521
                          (case g1x521 => exact rfl);(case g2x521 => exact rfl);(case g3x521 => exact rfl);(case g4x521 => exact HZ);(case g5x521 => exact Try.underlying27);(case g6x521 => exact rfl);(case g7x521 => kernel_rfl);(case g8x521 => exact rfl)
                          have ub : w.heap.size ≤ w.heap.size + 1 + 1 := Nat.le_add_right _ 2
                          exact ⟨0, O, a', b', s', _, rfl, HR.out, HP.out, (((HJ7.out.b.setCell ub _).setCell ub _).setCell ub _).setCell ub _⟩
                        · have HRV : Kp (∀ W, Below (w5.alloc (.cells #[.slice A5 m5 c5, .int .i64 a', .int .i64 b', .int .u64 s'] 27)).heap.size (w5.alloc (.cells #[.slice A5 m5 c5, .int .i64 a', .int .i64 b', .int .u64 s'] 27)) W → Calls Try.prog 17 #[.agg #[.slice A5 m5 c5, .int .i64 a', .int .i64 b', .int .u64 s']] W (fun e w' => e = .returned (.bool false) ∧ Below W.heap.size W w')) := ⟨fun W hW => by
                              have hcc := ref_version (c := c5) a' b' s' (show kRn.C W A5 O.length O from Kd.C_below (Kd.R_reads' HR6.out).2.2 hW) HByO.out
                              rw [← Hm5.out] at hcc
                              exact hcc.mono (fun e w' ⟨b, he, hb, hB⟩ => ⟨by rw [he]; cases b with | false => rfl | true => exact absurd (hb.1 rfl) hvo, hB⟩)⟩
                          have HR := Kp.mk (HBad.out (fun hg => by have h9 := hg.2.2.2; rw [← HO.out, ← Ha'.out, ← Hb'.out, ← Hs'.out] at h9; exact hvo h9))
                          clear hvo HBad HGd
                          have PK := Kp.mk (And.intro HR.out (And.intro HJ.out (And.intro HZ6.out (And.intro HR6.out HSz.out))))
                          (try clear HR);(try clear HJ);(try clear HZ6);(try clear HR6);(try clear HSz);(try clear H);(try clear H1);(try clear H2);(try clear HBy);(try clear HBy1);(try clear HVt);(try clear HEt);(try clear HN);(try clear HLF);(try clear HAll);(try clear HLo);(try clear HNt);(try clear HSR);(try clear HIs);(try clear HRow);(try clear HLe);(try clear HOut);(try clear HLO);(try clear HByO);(try clear HO);(try clear Hm5);(try clear Ha');(try clear Hb');(try clear Hs');(try clear G1);(try clear G2);(try clear G3);(try clear HBad);(try clear HGd);(try clear hn);(try clear hn1);(try clear hn2);(try clear hm);(try clear hm1);(try clear hm2);(try clear hsq);(try clear hesq);(try clear hc2);(try clear w1');(try clear w2');(try clear w5');(try clear w3');(try clear w4');(try clear bl);(try clear bd);(try clear bd2);(try clear bx);(try clear Hbb);(try clear hab);(try clear hbr);(try clear HL);(try clear HL1);(try clear HL2);(try clear hk);(try clear hd0);(try clear e1)
                          refine wp_region_below_seq ?_
                          repeat (first | go_big_quiet_step ((go_at_call 17; exact calls_blw (HRV.out _ (Blw.h _)))) | quiet_step ((go_at_call 17; exact calls_blw (HRV.out _ (Blw.h _)))))
                          refine wpQuiet_nil ?_
                          rintro _ ⟨pq, rfl⟩
                          have HR := Kp.mk PK.out.1
                          have HJ7 := Kp.mk (PK.out.2.1.below pq.h)
                          have HZ7 := Kp.mk ((pq.h.block _ (lt_of_block PK.out.2.2.1)).trans PK.out.2.2.1)
                          have HR7 := Kp.mk (Kd.R_below PK.out.2.2.2.1 pq.h)
                          have HSz := Kp.mk PK.out.2.2.2.2
                          clear Bv1 Bv2 Bv3 Be2 Be3 Be4 Bq0 Bq1 Bq2 Bq3 PK
                          clear HRV
                          have o0 := cells_top HJ7.out.z9 0 (.slice none 0 0) rfl;have r0 := cells_top HJ7.out.z8 0 (.slice none 0 0) rfl;have g0 := free_top HJ7.out.z8 0;have o1 := cells_top HJ7.out.z9 1 (.int .i64 0) rfl;have r1 := cells_top HJ7.out.z8 1 (.int .i64 0) rfl;have g1 := free_top HJ7.out.z8 1;have o2 := cells_top HJ7.out.z9 2 (.int .i64 0) rfl;have r2 := cells_top HJ7.out.z8 2 (.int .i64 0) rfl;have g2 := free_top HJ7.out.z8 2;have o3 := cells_top HJ7.out.z9 3 (.int .u64 0) rfl;have r3 := cells_top HJ7.out.z8 3 (.int .u64 0) rfl;have g3 := free_top HJ7.out.z8 3
                          have HZ := Jn.ret HJ7.out
                          (try simp only []); repeat (first | go_values | go_skip | go_guarded | go_step)
                          try simp only [Exit.inBlock, Exit.then]
                          refine @ret_ct ?P626 ?fn626 ?R626 ?a626 ?w626 ?ty626 (w.heap.size + 1 + 1) ?t626 ?cs626 ?fr626 ?d626 ?v626 ?g1x626 ?g2x626 ?g3x626 ?g4x626 ?g5x626 ?g6x626 ?g7x626 ?g8x626 ?g9x626
                          (case g1x626 => exact rfl);(case g2x626 => exact rfl);(case g3x626 => exact rfl);(case g4x626 => exact HZ.1);(case g5x626 => exact Try.underlying27);(case g6x626 => exact rfl);(case g7x626 => kernel_rfl);(case g8x626 => exact rfl)
                          exact ⟨10, [], 0, 0, 0, _, rfl, HR.out, Kd.R_nil _ _ _ _ _, HZ.2.2⟩
                      · have t2 : (esq != 0) = true := by simpa using h2
                        by_cases k2 : esq < sq
                        · have u2 : decide (esq < sq) = true := decide_eq_true k2
                          have HR := Kp.mk (HBad.out (fun hg => by have h9 := hg.2.2.1; unfold outS at h9; rw [if_pos (by omega)] at h9; omega))
                          clear h2 k2 HBad HGd
                          have PK := Kp.mk (And.intro HR.out (And.intro HJ.out (And.intro HZ6.out (And.intro HR6.out HSz.out))))
                          (try clear HR);(try clear HJ);(try clear HZ6);(try clear HR6);(try clear HSz);(try clear H);(try clear H1);(try clear H2);(try clear HBy);(try clear HBy1);(try clear HVt);(try clear HEt);(try clear HN);(try clear HLF);(try clear HAll);(try clear HLo);(try clear HNt);(try clear HSR);(try clear HIs);(try clear HRow);(try clear HLe);(try clear HOut);(try clear HLO);(try clear HByO);(try clear HO);(try clear Hm5);(try clear Ha');(try clear Hb');(try clear Hs');(try clear G1);(try clear G2);(try clear G3);(try clear HBad);(try clear HGd);(try clear hn);(try clear hn1);(try clear hn2);(try clear hm);(try clear hm1);(try clear hm2);(try clear hsq);(try clear hesq);(try clear hc2);(try clear w1');(try clear w2');(try clear w5');(try clear w3');(try clear w4');(try clear bl);(try clear bd);(try clear bd2);(try clear bx);(try clear Hbb);(try clear hab);(try clear hbr);(try clear HL);(try clear HL1);(try clear HL2);(try clear hk);(try clear hd0);(try clear e1)
                          refine wp_region_below_seq ?_
                          repeat (first | go_big_quiet_step (fail) | quiet_step (fail))
                          refine wpQuiet_nil ?_
                          rintro _ ⟨pq, rfl⟩
                          have HR := Kp.mk PK.out.1
                          have HJ7 := Kp.mk (PK.out.2.1.below pq.h)
                          have HZ7 := Kp.mk ((pq.h.block _ (lt_of_block PK.out.2.2.1)).trans PK.out.2.2.1)
                          have HR7 := Kp.mk (Kd.R_below PK.out.2.2.2.1 pq.h)
                          have HSz := Kp.mk PK.out.2.2.2.2
                          clear Bv1 Bv2 Bv3 Be2 Be3 Be4 Bq0 Bq1 Bq2 Bq3 PK
                          have o0 := cells_top HJ7.out.z9 0 (.slice none 0 0) rfl;have r0 := cells_top HJ7.out.z8 0 (.slice none 0 0) rfl;have g0 := free_top HJ7.out.z8 0;have o1 := cells_top HJ7.out.z9 1 (.int .i64 0) rfl;have r1 := cells_top HJ7.out.z8 1 (.int .i64 0) rfl;have g1 := free_top HJ7.out.z8 1;have o2 := cells_top HJ7.out.z9 2 (.int .i64 0) rfl;have r2 := cells_top HJ7.out.z8 2 (.int .i64 0) rfl;have g2 := free_top HJ7.out.z8 2;have o3 := cells_top HJ7.out.z9 3 (.int .u64 0) rfl;have r3 := cells_top HJ7.out.z8 3 (.int .u64 0) rfl;have g3 := free_top HJ7.out.z8 3
                          have HZ := Jn.ret HJ7.out
                          (try simp only []); repeat (first | go_values | go_skip | go_guarded | go_step)
                          try simp only [Exit.inBlock, Exit.then]
                          refine @ret_ct ?P728 ?fn728 ?R728 ?a728 ?w728 ?ty728 (w.heap.size + 1 + 1) ?t728 ?cs728 ?fr728 ?d728 ?v728 ?g1x728 ?g2x728 ?g3x728 ?g4x728 ?g5x728 ?g6x728 ?g7x728 ?g8x728 ?g9x728
                          (case g1x728 => exact rfl);(case g2x728 => exact rfl);(case g3x728 => exact rfl);(case g4x728 => exact HZ.1);(case g5x728 => exact Try.underlying27);(case g6x728 => exact rfl);(case g7x728 => kernel_rfl);(case g8x728 => exact rfl)
                          exact ⟨10, [], 0, 0, 0, _, rfl, HR.out, Kd.R_nil _ _ _ _ _, HZ.2.2⟩
                        · have u2 : decide (esq < sq) = false := decide_eq_false k2
                          have G3 : Kp (sq ≤ outS sq esq) := ⟨by unfold outS; rw [if_pos (by omega)]; omega⟩
                          clear h2 k2
                          by_cases hvo : VOk O a' b' s'
                          · have HRV : Kp (∀ W, Below (w5.alloc (.cells #[.slice A5 m5 c5, .int .i64 a', .int .i64 b', .int .u64 s'] 27)).heap.size (w5.alloc (.cells #[.slice A5 m5 c5, .int .i64 a', .int .i64 b', .int .u64 s'] 27)) W → Calls Try.prog 17 #[.agg #[.slice A5 m5 c5, .int .i64 a', .int .i64 b', .int .u64 s']] W (fun e w' => e = .returned (.bool true) ∧ Below W.heap.size W w')) := ⟨fun W hW => by
                                have hcc := ref_version (c := c5) a' b' s' (show kRn.C W A5 O.length O from Kd.C_below (Kd.R_reads' HR6.out).2.2 hW) HByO.out
                                rw [← Hm5.out] at hcc
                                exact hcc.mono (fun e w' ⟨b, he, hb, hB⟩ => ⟨by rw [he, hb.2 hvo], hB⟩)⟩
                            have HR := Kp.mk (HGd.out ⟨G1.out, G2.out, G3.out, by rw [HO.out, Ha'.out, Hb'.out, Hs'.out] at hvo; exact hvo⟩)
                            clear hvo HBad HGd
                            have PK := Kp.mk (And.intro HR.out (And.intro HJ.out (And.intro HZ6.out (And.intro HR6.out HSz.out))))
                            (try clear HR);(try clear HJ);(try clear HZ6);(try clear HR6);(try clear HSz);(try clear H);(try clear H1);(try clear H2);(try clear HBy);(try clear HBy1);(try clear HVt);(try clear HEt);(try clear HN);(try clear HLF);(try clear HAll);(try clear HLo);(try clear HNt);(try clear HSR);(try clear HIs);(try clear HRow);(try clear HLe);(try clear HOut);(try clear HLO);(try clear HByO);(try clear HO);(try clear Hm5);(try clear Ha');(try clear Hb');(try clear Hs');(try clear G1);(try clear G2);(try clear G3);(try clear HBad);(try clear HGd);(try clear hn);(try clear hn1);(try clear hn2);(try clear hm);(try clear hm1);(try clear hm2);(try clear hsq);(try clear hesq);(try clear hc2);(try clear w1');(try clear w2');(try clear w5');(try clear w3');(try clear w4');(try clear bl);(try clear bd);(try clear bd2);(try clear bx);(try clear Hbb);(try clear hab);(try clear hbr);(try clear HL);(try clear HL1);(try clear HL2);(try clear hk);(try clear hd0);(try clear e1)
                            refine wp_region_below_seq ?_
                            repeat (first | go_big_quiet_step ((go_at_call 17; exact calls_blw (HRV.out _ (Blw.h _)))) | quiet_step ((go_at_call 17; exact calls_blw (HRV.out _ (Blw.h _)))))
                            refine wpQuiet_nil ?_
                            rintro _ ⟨pq, rfl⟩
                            have HR := Kp.mk PK.out.1
                            have HJ7 := Kp.mk (PK.out.2.1.below pq.h)
                            have HZ7 := Kp.mk ((pq.h.block _ (lt_of_block PK.out.2.2.1)).trans PK.out.2.2.1)
                            have HR7 := Kp.mk (Kd.R_below PK.out.2.2.2.1 pq.h)
                            have HSz := Kp.mk PK.out.2.2.2.2
                            clear Bv1 Bv2 Bv3 Be2 Be3 Be4 Bq0 Bq1 Bq2 Bq3 PK
                            clear HRV
                            have q0 := cells_top HZ7.out 0 (.slice A5 m5 c5) rfl;have q1 := cells_top HZ7.out 1 (.int .i64 a') rfl;have q2 := cells_top HZ7.out 2 (.int .i64 b') rfl;have q3 := cells_top HZ7.out 3 (.int .u64 s') rfl;have r0 := cells_top HJ7.out.z8 0 (.slice none 0 0) rfl;have g0 := free_top HJ7.out.z8 0;have r1 := cells_top HJ7.out.z8 1 (.int .i64 0) rfl;have g1 := free_top HJ7.out.z8 1;have r2 := cells_top HJ7.out.z8 2 (.int .i64 0) rfl;have g2 := free_top HJ7.out.z8 2;have r3 := cells_top HJ7.out.z8 3 (.int .u64 0) rfl;have g3 := free_top HJ7.out.z8 3
                            have HZ := laid4 HJ7.out.z8 (.slice A5 m5 c5) (.int .i64 a') (.int .i64 b') (.int .u64 s')
                            have HP := Kp.mk (put_R (Kd.R_lower HR7.out HSz.out) HJ7.out.z8 (.slice A5 m5 c5) (.int .i64 a') (.int .i64 b') (.int .u64 s'))
                            (try simp only []); repeat (first | go_values | go_skip | go_guarded | go_step)
                            try simp only [Exit.inBlock, Exit.then]
                            refine @ret_ct ?P837 ?fn837 ?R837 ?a837 ?w837 ?ty837 (w.heap.size + 1 + 1) ?t837 ?cs837 ?fr837 ?d837 ?v837 ?g1x837 ?g2x837 ?g3x837 ?g4x837 ?g5x837 ?g6x837 ?g7x837 ?g8x837 ?g9x837
                            (case g1x837 => exact rfl);(case g2x837 => exact rfl);(case g3x837 => exact rfl);(case g4x837 => exact HZ);(case g5x837 => exact Try.underlying27);(case g6x837 => exact rfl);(case g7x837 => kernel_rfl);(case g8x837 => exact rfl)
                            have ub : w.heap.size ≤ w.heap.size + 1 + 1 := Nat.le_add_right _ 2
                            exact ⟨0, O, a', b', s', _, rfl, HR.out, HP.out, (((HJ7.out.b.setCell ub _).setCell ub _).setCell ub _).setCell ub _⟩
                          · have HRV : Kp (∀ W, Below (w5.alloc (.cells #[.slice A5 m5 c5, .int .i64 a', .int .i64 b', .int .u64 s'] 27)).heap.size (w5.alloc (.cells #[.slice A5 m5 c5, .int .i64 a', .int .i64 b', .int .u64 s'] 27)) W → Calls Try.prog 17 #[.agg #[.slice A5 m5 c5, .int .i64 a', .int .i64 b', .int .u64 s']] W (fun e w' => e = .returned (.bool false) ∧ Below W.heap.size W w')) := ⟨fun W hW => by
                                have hcc := ref_version (c := c5) a' b' s' (show kRn.C W A5 O.length O from Kd.C_below (Kd.R_reads' HR6.out).2.2 hW) HByO.out
                                rw [← Hm5.out] at hcc
                                exact hcc.mono (fun e w' ⟨b, he, hb, hB⟩ => ⟨by rw [he]; cases b with | false => rfl | true => exact absurd (hb.1 rfl) hvo, hB⟩)⟩
                            have HR := Kp.mk (HBad.out (fun hg => by have h9 := hg.2.2.2; rw [← HO.out, ← Ha'.out, ← Hb'.out, ← Hs'.out] at h9; exact hvo h9))
                            clear hvo HBad HGd
                            have PK := Kp.mk (And.intro HR.out (And.intro HJ.out (And.intro HZ6.out (And.intro HR6.out HSz.out))))
                            (try clear HR);(try clear HJ);(try clear HZ6);(try clear HR6);(try clear HSz);(try clear H);(try clear H1);(try clear H2);(try clear HBy);(try clear HBy1);(try clear HVt);(try clear HEt);(try clear HN);(try clear HLF);(try clear HAll);(try clear HLo);(try clear HNt);(try clear HSR);(try clear HIs);(try clear HRow);(try clear HLe);(try clear HOut);(try clear HLO);(try clear HByO);(try clear HO);(try clear Hm5);(try clear Ha');(try clear Hb');(try clear Hs');(try clear G1);(try clear G2);(try clear G3);(try clear HBad);(try clear HGd);(try clear hn);(try clear hn1);(try clear hn2);(try clear hm);(try clear hm1);(try clear hm2);(try clear hsq);(try clear hesq);(try clear hc2);(try clear w1');(try clear w2');(try clear w5');(try clear w3');(try clear w4');(try clear bl);(try clear bd);(try clear bd2);(try clear bx);(try clear Hbb);(try clear hab);(try clear hbr);(try clear HL);(try clear HL1);(try clear HL2);(try clear hk);(try clear hd0);(try clear e1)
                            refine wp_region_below_seq ?_
                            repeat (first | go_big_quiet_step ((go_at_call 17; exact calls_blw (HRV.out _ (Blw.h _)))) | quiet_step ((go_at_call 17; exact calls_blw (HRV.out _ (Blw.h _)))))
                            refine wpQuiet_nil ?_
                            rintro _ ⟨pq, rfl⟩
                            have HR := Kp.mk PK.out.1
                            have HJ7 := Kp.mk (PK.out.2.1.below pq.h)
                            have HZ7 := Kp.mk ((pq.h.block _ (lt_of_block PK.out.2.2.1)).trans PK.out.2.2.1)
                            have HR7 := Kp.mk (Kd.R_below PK.out.2.2.2.1 pq.h)
                            have HSz := Kp.mk PK.out.2.2.2.2
                            clear Bv1 Bv2 Bv3 Be2 Be3 Be4 Bq0 Bq1 Bq2 Bq3 PK
                            clear HRV
                            have o0 := cells_top HJ7.out.z9 0 (.slice none 0 0) rfl;have r0 := cells_top HJ7.out.z8 0 (.slice none 0 0) rfl;have g0 := free_top HJ7.out.z8 0;have o1 := cells_top HJ7.out.z9 1 (.int .i64 0) rfl;have r1 := cells_top HJ7.out.z8 1 (.int .i64 0) rfl;have g1 := free_top HJ7.out.z8 1;have o2 := cells_top HJ7.out.z9 2 (.int .i64 0) rfl;have r2 := cells_top HJ7.out.z8 2 (.int .i64 0) rfl;have g2 := free_top HJ7.out.z8 2;have o3 := cells_top HJ7.out.z9 3 (.int .u64 0) rfl;have r3 := cells_top HJ7.out.z8 3 (.int .u64 0) rfl;have g3 := free_top HJ7.out.z8 3
                            have HZ := Jn.ret HJ7.out
                            (try simp only []); repeat (first | go_values | go_skip | go_guarded | go_step)
                            try simp only [Exit.inBlock, Exit.then]
                            refine @ret_ct ?P942 ?fn942 ?R942 ?a942 ?w942 ?ty942 (w.heap.size + 1 + 1) ?t942 ?cs942 ?fr942 ?d942 ?v942 ?g1x942 ?g2x942 ?g3x942 ?g4x942 ?g5x942 ?g6x942 ?g7x942 ?g8x942 ?g9x942
                            (case g1x942 => exact rfl);(case g2x942 => exact rfl);(case g3x942 => exact rfl);(case g4x942 => exact HZ.1);(case g5x942 => exact Try.underlying27);(case g6x942 => exact rfl);(case g7x942 => kernel_rfl);(case g8x942 => exact rfl)
                            exact ⟨10, [], 0, 0, 0, _, rfl, HR.out, Kd.R_nil _ _ _ _ _, HZ.2.2⟩
                    · have t1 : (elg != 0) = true := by simpa using h1
                      by_cases k1 : elg < lg
                      · have u1 : decide (elg < lg) = true := decide_eq_true k1
                        have HR := Kp.mk (HBad.out (fun hg => by have h9 := hg.2.1; unfold laterB at h9; have := of_decide_eq_true h9; omega))
                        clear h1 k1 HBad HGd
                        have PK := Kp.mk (And.intro HR.out (And.intro HJ.out (And.intro HZ6.out (And.intro HR6.out HSz.out))))
                        (try clear HR);(try clear HJ);(try clear HZ6);(try clear HR6);(try clear HSz);(try clear H);(try clear H1);(try clear H2);(try clear HBy);(try clear HBy1);(try clear HVt);(try clear HEt);(try clear HN);(try clear HLF);(try clear HAll);(try clear HLo);(try clear HNt);(try clear HSR);(try clear HIs);(try clear HRow);(try clear HLe);(try clear HOut);(try clear HLO);(try clear HByO);(try clear HO);(try clear Hm5);(try clear Ha');(try clear Hb');(try clear Hs');(try clear G1);(try clear G2);(try clear G3);(try clear HBad);(try clear HGd);(try clear hn);(try clear hn1);(try clear hn2);(try clear hm);(try clear hm1);(try clear hm2);(try clear hsq);(try clear hesq);(try clear hc2);(try clear w1');(try clear w2');(try clear w5');(try clear w3');(try clear w4');(try clear bl);(try clear bd);(try clear bd2);(try clear bx);(try clear Hbb);(try clear hab);(try clear hbr);(try clear HL);(try clear HL1);(try clear HL2);(try clear hk);(try clear hd0);(try clear e1)
                        refine wp_region_below_seq ?_
                        repeat (first | go_big_quiet_step (fail) | quiet_step (fail))
                        refine wpQuiet_nil ?_
                        rintro _ ⟨pq, rfl⟩
                        have HR := Kp.mk PK.out.1
                        have HJ7 := Kp.mk (PK.out.2.1.below pq.h)
                        have HZ7 := Kp.mk ((pq.h.block _ (lt_of_block PK.out.2.2.1)).trans PK.out.2.2.1)
                        have HR7 := Kp.mk (Kd.R_below PK.out.2.2.2.1 pq.h)
                        have HSz := Kp.mk PK.out.2.2.2.2
                        clear Bv1 Bv2 Bv3 Be2 Be3 Be4 Bq0 Bq1 Bq2 Bq3 PK
                        have o0 := cells_top HJ7.out.z9 0 (.slice none 0 0) rfl;have r0 := cells_top HJ7.out.z8 0 (.slice none 0 0) rfl;have g0 := free_top HJ7.out.z8 0;have o1 := cells_top HJ7.out.z9 1 (.int .i64 0) rfl;have r1 := cells_top HJ7.out.z8 1 (.int .i64 0) rfl;have g1 := free_top HJ7.out.z8 1;have o2 := cells_top HJ7.out.z9 2 (.int .i64 0) rfl;have r2 := cells_top HJ7.out.z8 2 (.int .i64 0) rfl;have g2 := free_top HJ7.out.z8 2;have o3 := cells_top HJ7.out.z9 3 (.int .u64 0) rfl;have r3 := cells_top HJ7.out.z8 3 (.int .u64 0) rfl;have g3 := free_top HJ7.out.z8 3
                        have HZ := Jn.ret HJ7.out
                        (try simp only []); repeat (first | go_values | go_skip | go_guarded | go_step)
                        try simp only [Exit.inBlock, Exit.then]
                        refine @ret_ct ?P1044 ?fn1044 ?R1044 ?a1044 ?w1044 ?ty1044 (w.heap.size + 1 + 1) ?t1044 ?cs1044 ?fr1044 ?d1044 ?v1044 ?g1x1044 ?g2x1044 ?g3x1044 ?g4x1044 ?g5x1044 ?g6x1044 ?g7x1044 ?g8x1044 ?g9x1044
                        (case g1x1044 => exact rfl);(case g2x1044 => exact rfl);(case g3x1044 => exact rfl);(case g4x1044 => exact HZ.1);(case g5x1044 => exact Try.underlying27);(case g6x1044 => exact rfl);(case g7x1044 => kernel_rfl);(case g8x1044 => exact rfl)
                        exact ⟨10, [], 0, 0, 0, _, rfl, HR.out, Kd.R_nil _ _ _ _ _, HZ.2.2⟩
                      · have u1 : decide (elg < lg) = false := decide_eq_false k1
                        have G2 : Kp (laterB lg elg = true) := ⟨by unfold laterB; exact decide_eq_true (.inr (by omega))⟩
                        clear h1 k1
                        by_cases h2 : esq = 0
                        · have t2 : (esq != 0) = false := by simpa using h2
                          have G3 : Kp (sq ≤ outS sq esq) := ⟨by unfold outS; rw [if_neg (by omega)]; exact Int.le_refl _⟩
                          clear h2
                          by_cases hvo : VOk O a' b' s'
                          · have HRV : Kp (∀ W, Below (w5.alloc (.cells #[.slice A5 m5 c5, .int .i64 a', .int .i64 b', .int .u64 s'] 27)).heap.size (w5.alloc (.cells #[.slice A5 m5 c5, .int .i64 a', .int .i64 b', .int .u64 s'] 27)) W → Calls Try.prog 17 #[.agg #[.slice A5 m5 c5, .int .i64 a', .int .i64 b', .int .u64 s']] W (fun e w' => e = .returned (.bool true) ∧ Below W.heap.size W w')) := ⟨fun W hW => by
                                have hcc := ref_version (c := c5) a' b' s' (show kRn.C W A5 O.length O from Kd.C_below (Kd.R_reads' HR6.out).2.2 hW) HByO.out
                                rw [← Hm5.out] at hcc
                                exact hcc.mono (fun e w' ⟨b, he, hb, hB⟩ => ⟨by rw [he, hb.2 hvo], hB⟩)⟩
                            have HR := Kp.mk (HGd.out ⟨G1.out, G2.out, G3.out, by rw [HO.out, Ha'.out, Hb'.out, Hs'.out] at hvo; exact hvo⟩)
                            clear hvo HBad HGd
                            have PK := Kp.mk (And.intro HR.out (And.intro HJ.out (And.intro HZ6.out (And.intro HR6.out HSz.out))))
                            (try clear HR);(try clear HJ);(try clear HZ6);(try clear HR6);(try clear HSz);(try clear H);(try clear H1);(try clear H2);(try clear HBy);(try clear HBy1);(try clear HVt);(try clear HEt);(try clear HN);(try clear HLF);(try clear HAll);(try clear HLo);(try clear HNt);(try clear HSR);(try clear HIs);(try clear HRow);(try clear HLe);(try clear HOut);(try clear HLO);(try clear HByO);(try clear HO);(try clear Hm5);(try clear Ha');(try clear Hb');(try clear Hs');(try clear G1);(try clear G2);(try clear G3);(try clear HBad);(try clear HGd);(try clear hn);(try clear hn1);(try clear hn2);(try clear hm);(try clear hm1);(try clear hm2);(try clear hsq);(try clear hesq);(try clear hc2);(try clear w1');(try clear w2');(try clear w5');(try clear w3');(try clear w4');(try clear bl);(try clear bd);(try clear bd2);(try clear bx);(try clear Hbb);(try clear hab);(try clear hbr);(try clear HL);(try clear HL1);(try clear HL2);(try clear hk);(try clear hd0);(try clear e1)
                            refine wp_region_below_seq ?_
                            repeat (first | go_big_quiet_step ((go_at_call 17; exact calls_blw (HRV.out _ (Blw.h _)))) | quiet_step ((go_at_call 17; exact calls_blw (HRV.out _ (Blw.h _)))))
                            refine wpQuiet_nil ?_
                            rintro _ ⟨pq, rfl⟩
                            have HR := Kp.mk PK.out.1
                            have HJ7 := Kp.mk (PK.out.2.1.below pq.h)
                            have HZ7 := Kp.mk ((pq.h.block _ (lt_of_block PK.out.2.2.1)).trans PK.out.2.2.1)
                            have HR7 := Kp.mk (Kd.R_below PK.out.2.2.2.1 pq.h)
                            have HSz := Kp.mk PK.out.2.2.2.2
                            clear Bv1 Bv2 Bv3 Be2 Be3 Be4 Bq0 Bq1 Bq2 Bq3 PK
                            clear HRV
                            have q0 := cells_top HZ7.out 0 (.slice A5 m5 c5) rfl;have q1 := cells_top HZ7.out 1 (.int .i64 a') rfl;have q2 := cells_top HZ7.out 2 (.int .i64 b') rfl;have q3 := cells_top HZ7.out 3 (.int .u64 s') rfl;have r0 := cells_top HJ7.out.z8 0 (.slice none 0 0) rfl;have g0 := free_top HJ7.out.z8 0;have r1 := cells_top HJ7.out.z8 1 (.int .i64 0) rfl;have g1 := free_top HJ7.out.z8 1;have r2 := cells_top HJ7.out.z8 2 (.int .i64 0) rfl;have g2 := free_top HJ7.out.z8 2;have r3 := cells_top HJ7.out.z8 3 (.int .u64 0) rfl;have g3 := free_top HJ7.out.z8 3
                            have HZ := laid4 HJ7.out.z8 (.slice A5 m5 c5) (.int .i64 a') (.int .i64 b') (.int .u64 s')
                            have HP := Kp.mk (put_R (Kd.R_lower HR7.out HSz.out) HJ7.out.z8 (.slice A5 m5 c5) (.int .i64 a') (.int .i64 b') (.int .u64 s'))
                            (try simp only []); repeat (first | go_values | go_skip | go_guarded | go_step)
                            try simp only [Exit.inBlock, Exit.then]
                            refine @ret_ct ?P1157 ?fn1157 ?R1157 ?a1157 ?w1157 ?ty1157 (w.heap.size + 1 + 1) ?t1157 ?cs1157 ?fr1157 ?d1157 ?v1157 ?g1x1157 ?g2x1157 ?g3x1157 ?g4x1157 ?g5x1157 ?g6x1157 ?g7x1157 ?g8x1157 ?g9x1157
                            (case g1x1157 => exact rfl);(case g2x1157 => exact rfl);(case g3x1157 => exact rfl);(case g4x1157 => exact HZ);(case g5x1157 => exact Try.underlying27);(case g6x1157 => exact rfl);(case g7x1157 => kernel_rfl);(case g8x1157 => exact rfl)
                            have ub : w.heap.size ≤ w.heap.size + 1 + 1 := Nat.le_add_right _ 2
                            exact ⟨0, O, a', b', s', _, rfl, HR.out, HP.out, (((HJ7.out.b.setCell ub _).setCell ub _).setCell ub _).setCell ub _⟩
                          · have HRV : Kp (∀ W, Below (w5.alloc (.cells #[.slice A5 m5 c5, .int .i64 a', .int .i64 b', .int .u64 s'] 27)).heap.size (w5.alloc (.cells #[.slice A5 m5 c5, .int .i64 a', .int .i64 b', .int .u64 s'] 27)) W → Calls Try.prog 17 #[.agg #[.slice A5 m5 c5, .int .i64 a', .int .i64 b', .int .u64 s']] W (fun e w' => e = .returned (.bool false) ∧ Below W.heap.size W w')) := ⟨fun W hW => by
                                have hcc := ref_version (c := c5) a' b' s' (show kRn.C W A5 O.length O from Kd.C_below (Kd.R_reads' HR6.out).2.2 hW) HByO.out
                                rw [← Hm5.out] at hcc
                                exact hcc.mono (fun e w' ⟨b, he, hb, hB⟩ => ⟨by rw [he]; cases b with | false => rfl | true => exact absurd (hb.1 rfl) hvo, hB⟩)⟩
                            have HR := Kp.mk (HBad.out (fun hg => by have h9 := hg.2.2.2; rw [← HO.out, ← Ha'.out, ← Hb'.out, ← Hs'.out] at h9; exact hvo h9))
                            clear hvo HBad HGd
                            have PK := Kp.mk (And.intro HR.out (And.intro HJ.out (And.intro HZ6.out (And.intro HR6.out HSz.out))))
                            (try clear HR);(try clear HJ);(try clear HZ6);(try clear HR6);(try clear HSz);(try clear H);(try clear H1);(try clear H2);(try clear HBy);(try clear HBy1);(try clear HVt);(try clear HEt);(try clear HN);(try clear HLF);(try clear HAll);(try clear HLo);(try clear HNt);(try clear HSR);(try clear HIs);(try clear HRow);(try clear HLe);(try clear HOut);(try clear HLO);(try clear HByO);(try clear HO);(try clear Hm5);(try clear Ha');(try clear Hb');(try clear Hs');(try clear G1);(try clear G2);(try clear G3);(try clear HBad);(try clear HGd);(try clear hn);(try clear hn1);(try clear hn2);(try clear hm);(try clear hm1);(try clear hm2);(try clear hsq);(try clear hesq);(try clear hc2);(try clear w1');(try clear w2');(try clear w5');(try clear w3');(try clear w4');(try clear bl);(try clear bd);(try clear bd2);(try clear bx);(try clear Hbb);(try clear hab);(try clear hbr);(try clear HL);(try clear HL1);(try clear HL2);(try clear hk);(try clear hd0);(try clear e1)
                            refine wp_region_below_seq ?_
                            repeat (first | go_big_quiet_step ((go_at_call 17; exact calls_blw (HRV.out _ (Blw.h _)))) | quiet_step ((go_at_call 17; exact calls_blw (HRV.out _ (Blw.h _)))))
                            refine wpQuiet_nil ?_
                            rintro _ ⟨pq, rfl⟩
                            have HR := Kp.mk PK.out.1
                            have HJ7 := Kp.mk (PK.out.2.1.below pq.h)
                            have HZ7 := Kp.mk ((pq.h.block _ (lt_of_block PK.out.2.2.1)).trans PK.out.2.2.1)
                            have HR7 := Kp.mk (Kd.R_below PK.out.2.2.2.1 pq.h)
                            have HSz := Kp.mk PK.out.2.2.2.2
                            clear Bv1 Bv2 Bv3 Be2 Be3 Be4 Bq0 Bq1 Bq2 Bq3 PK
                            clear HRV
                            have o0 := cells_top HJ7.out.z9 0 (.slice none 0 0) rfl;have r0 := cells_top HJ7.out.z8 0 (.slice none 0 0) rfl;have g0 := free_top HJ7.out.z8 0;have o1 := cells_top HJ7.out.z9 1 (.int .i64 0) rfl;have r1 := cells_top HJ7.out.z8 1 (.int .i64 0) rfl;have g1 := free_top HJ7.out.z8 1;have o2 := cells_top HJ7.out.z9 2 (.int .i64 0) rfl;have r2 := cells_top HJ7.out.z8 2 (.int .i64 0) rfl;have g2 := free_top HJ7.out.z8 2;have o3 := cells_top HJ7.out.z9 3 (.int .u64 0) rfl;have r3 := cells_top HJ7.out.z8 3 (.int .u64 0) rfl;have g3 := free_top HJ7.out.z8 3
                            have HZ := Jn.ret HJ7.out
                            (try simp only []); repeat (first | go_values | go_skip | go_guarded | go_step)
                            try simp only [Exit.inBlock, Exit.then]
                            refine @ret_ct ?P1262 ?fn1262 ?R1262 ?a1262 ?w1262 ?ty1262 (w.heap.size + 1 + 1) ?t1262 ?cs1262 ?fr1262 ?d1262 ?v1262 ?g1x1262 ?g2x1262 ?g3x1262 ?g4x1262 ?g5x1262 ?g6x1262 ?g7x1262 ?g8x1262 ?g9x1262
                            (case g1x1262 => exact rfl);(case g2x1262 => exact rfl);(case g3x1262 => exact rfl);(case g4x1262 => exact HZ.1);(case g5x1262 => exact Try.underlying27);(case g6x1262 => exact rfl);(case g7x1262 => kernel_rfl);(case g8x1262 => exact rfl)
                            exact ⟨10, [], 0, 0, 0, _, rfl, HR.out, Kd.R_nil _ _ _ _ _, HZ.2.2⟩
                        · have t2 : (esq != 0) = true := by simpa using h2
                          by_cases k2 : esq < sq
                          · have u2 : decide (esq < sq) = true := decide_eq_true k2
                            have HR := Kp.mk (HBad.out (fun hg => by have h9 := hg.2.2.1; unfold outS at h9; rw [if_pos (by omega)] at h9; omega))
                            clear h2 k2 HBad HGd
                            have PK := Kp.mk (And.intro HR.out (And.intro HJ.out (And.intro HZ6.out (And.intro HR6.out HSz.out))))
                            (try clear HR);(try clear HJ);(try clear HZ6);(try clear HR6);(try clear HSz);(try clear H);(try clear H1);(try clear H2);(try clear HBy);(try clear HBy1);(try clear HVt);(try clear HEt);(try clear HN);(try clear HLF);(try clear HAll);(try clear HLo);(try clear HNt);(try clear HSR);(try clear HIs);(try clear HRow);(try clear HLe);(try clear HOut);(try clear HLO);(try clear HByO);(try clear HO);(try clear Hm5);(try clear Ha');(try clear Hb');(try clear Hs');(try clear G1);(try clear G2);(try clear G3);(try clear HBad);(try clear HGd);(try clear hn);(try clear hn1);(try clear hn2);(try clear hm);(try clear hm1);(try clear hm2);(try clear hsq);(try clear hesq);(try clear hc2);(try clear w1');(try clear w2');(try clear w5');(try clear w3');(try clear w4');(try clear bl);(try clear bd);(try clear bd2);(try clear bx);(try clear Hbb);(try clear hab);(try clear hbr);(try clear HL);(try clear HL1);(try clear HL2);(try clear hk);(try clear hd0);(try clear e1)
                            refine wp_region_below_seq ?_
                            repeat (first | go_big_quiet_step (fail) | quiet_step (fail))
                            refine wpQuiet_nil ?_
                            rintro _ ⟨pq, rfl⟩
                            have HR := Kp.mk PK.out.1
                            have HJ7 := Kp.mk (PK.out.2.1.below pq.h)
                            have HZ7 := Kp.mk ((pq.h.block _ (lt_of_block PK.out.2.2.1)).trans PK.out.2.2.1)
                            have HR7 := Kp.mk (Kd.R_below PK.out.2.2.2.1 pq.h)
                            have HSz := Kp.mk PK.out.2.2.2.2
                            clear Bv1 Bv2 Bv3 Be2 Be3 Be4 Bq0 Bq1 Bq2 Bq3 PK
                            have o0 := cells_top HJ7.out.z9 0 (.slice none 0 0) rfl;have r0 := cells_top HJ7.out.z8 0 (.slice none 0 0) rfl;have g0 := free_top HJ7.out.z8 0;have o1 := cells_top HJ7.out.z9 1 (.int .i64 0) rfl;have r1 := cells_top HJ7.out.z8 1 (.int .i64 0) rfl;have g1 := free_top HJ7.out.z8 1;have o2 := cells_top HJ7.out.z9 2 (.int .i64 0) rfl;have r2 := cells_top HJ7.out.z8 2 (.int .i64 0) rfl;have g2 := free_top HJ7.out.z8 2;have o3 := cells_top HJ7.out.z9 3 (.int .u64 0) rfl;have r3 := cells_top HJ7.out.z8 3 (.int .u64 0) rfl;have g3 := free_top HJ7.out.z8 3
                            have HZ := Jn.ret HJ7.out
                            (try simp only []); repeat (first | go_values | go_skip | go_guarded | go_step)
                            try simp only [Exit.inBlock, Exit.then]
                            refine @ret_ct ?P1364 ?fn1364 ?R1364 ?a1364 ?w1364 ?ty1364 (w.heap.size + 1 + 1) ?t1364 ?cs1364 ?fr1364 ?d1364 ?v1364 ?g1x1364 ?g2x1364 ?g3x1364 ?g4x1364 ?g5x1364 ?g6x1364 ?g7x1364 ?g8x1364 ?g9x1364
                            (case g1x1364 => exact rfl);(case g2x1364 => exact rfl);(case g3x1364 => exact rfl);(case g4x1364 => exact HZ.1);(case g5x1364 => exact Try.underlying27);(case g6x1364 => exact rfl);(case g7x1364 => kernel_rfl);(case g8x1364 => exact rfl)
                            exact ⟨10, [], 0, 0, 0, _, rfl, HR.out, Kd.R_nil _ _ _ _ _, HZ.2.2⟩
                          · have u2 : decide (esq < sq) = false := decide_eq_false k2
                            have G3 : Kp (sq ≤ outS sq esq) := ⟨by unfold outS; rw [if_pos (by omega)]; omega⟩
                            clear h2 k2
                            by_cases hvo : VOk O a' b' s'
                            · have HRV : Kp (∀ W, Below (w5.alloc (.cells #[.slice A5 m5 c5, .int .i64 a', .int .i64 b', .int .u64 s'] 27)).heap.size (w5.alloc (.cells #[.slice A5 m5 c5, .int .i64 a', .int .i64 b', .int .u64 s'] 27)) W → Calls Try.prog 17 #[.agg #[.slice A5 m5 c5, .int .i64 a', .int .i64 b', .int .u64 s']] W (fun e w' => e = .returned (.bool true) ∧ Below W.heap.size W w')) := ⟨fun W hW => by
                                  have hcc := ref_version (c := c5) a' b' s' (show kRn.C W A5 O.length O from Kd.C_below (Kd.R_reads' HR6.out).2.2 hW) HByO.out
                                  rw [← Hm5.out] at hcc
                                  exact hcc.mono (fun e w' ⟨b, he, hb, hB⟩ => ⟨by rw [he, hb.2 hvo], hB⟩)⟩
                              have HR := Kp.mk (HGd.out ⟨G1.out, G2.out, G3.out, by rw [HO.out, Ha'.out, Hb'.out, Hs'.out] at hvo; exact hvo⟩)
                              clear hvo HBad HGd
                              have PK := Kp.mk (And.intro HR.out (And.intro HJ.out (And.intro HZ6.out (And.intro HR6.out HSz.out))))
                              (try clear HR);(try clear HJ);(try clear HZ6);(try clear HR6);(try clear HSz);(try clear H);(try clear H1);(try clear H2);(try clear HBy);(try clear HBy1);(try clear HVt);(try clear HEt);(try clear HN);(try clear HLF);(try clear HAll);(try clear HLo);(try clear HNt);(try clear HSR);(try clear HIs);(try clear HRow);(try clear HLe);(try clear HOut);(try clear HLO);(try clear HByO);(try clear HO);(try clear Hm5);(try clear Ha');(try clear Hb');(try clear Hs');(try clear G1);(try clear G2);(try clear G3);(try clear HBad);(try clear HGd);(try clear hn);(try clear hn1);(try clear hn2);(try clear hm);(try clear hm1);(try clear hm2);(try clear hsq);(try clear hesq);(try clear hc2);(try clear w1');(try clear w2');(try clear w5');(try clear w3');(try clear w4');(try clear bl);(try clear bd);(try clear bd2);(try clear bx);(try clear Hbb);(try clear hab);(try clear hbr);(try clear HL);(try clear HL1);(try clear HL2);(try clear hk);(try clear hd0);(try clear e1)
                              refine wp_region_below_seq ?_
                              repeat (first | go_big_quiet_step ((go_at_call 17; exact calls_blw (HRV.out _ (Blw.h _)))) | quiet_step ((go_at_call 17; exact calls_blw (HRV.out _ (Blw.h _)))))
                              refine wpQuiet_nil ?_
                              rintro _ ⟨pq, rfl⟩
                              have HR := Kp.mk PK.out.1
                              have HJ7 := Kp.mk (PK.out.2.1.below pq.h)
                              have HZ7 := Kp.mk ((pq.h.block _ (lt_of_block PK.out.2.2.1)).trans PK.out.2.2.1)
                              have HR7 := Kp.mk (Kd.R_below PK.out.2.2.2.1 pq.h)
                              have HSz := Kp.mk PK.out.2.2.2.2
                              clear Bv1 Bv2 Bv3 Be2 Be3 Be4 Bq0 Bq1 Bq2 Bq3 PK
                              clear HRV
                              have q0 := cells_top HZ7.out 0 (.slice A5 m5 c5) rfl;have q1 := cells_top HZ7.out 1 (.int .i64 a') rfl;have q2 := cells_top HZ7.out 2 (.int .i64 b') rfl;have q3 := cells_top HZ7.out 3 (.int .u64 s') rfl;have r0 := cells_top HJ7.out.z8 0 (.slice none 0 0) rfl;have g0 := free_top HJ7.out.z8 0;have r1 := cells_top HJ7.out.z8 1 (.int .i64 0) rfl;have g1 := free_top HJ7.out.z8 1;have r2 := cells_top HJ7.out.z8 2 (.int .i64 0) rfl;have g2 := free_top HJ7.out.z8 2;have r3 := cells_top HJ7.out.z8 3 (.int .u64 0) rfl;have g3 := free_top HJ7.out.z8 3
                              have HZ := laid4 HJ7.out.z8 (.slice A5 m5 c5) (.int .i64 a') (.int .i64 b') (.int .u64 s')
                              have HP := Kp.mk (put_R (Kd.R_lower HR7.out HSz.out) HJ7.out.z8 (.slice A5 m5 c5) (.int .i64 a') (.int .i64 b') (.int .u64 s'))
                              (try simp only []); repeat (first | go_values | go_skip | go_guarded | go_step)
                              try simp only [Exit.inBlock, Exit.then]
                              refine @ret_ct ?P1473 ?fn1473 ?R1473 ?a1473 ?w1473 ?ty1473 (w.heap.size + 1 + 1) ?t1473 ?cs1473 ?fr1473 ?d1473 ?v1473 ?g1x1473 ?g2x1473 ?g3x1473 ?g4x1473 ?g5x1473 ?g6x1473 ?g7x1473 ?g8x1473 ?g9x1473
                              (case g1x1473 => exact rfl);(case g2x1473 => exact rfl);(case g3x1473 => exact rfl);(case g4x1473 => exact HZ);(case g5x1473 => exact Try.underlying27);(case g6x1473 => exact rfl);(case g7x1473 => kernel_rfl);(case g8x1473 => exact rfl)
                              have ub : w.heap.size ≤ w.heap.size + 1 + 1 := Nat.le_add_right _ 2
                              exact ⟨0, O, a', b', s', _, rfl, HR.out, HP.out, (((HJ7.out.b.setCell ub _).setCell ub _).setCell ub _).setCell ub _⟩
                            · have HRV : Kp (∀ W, Below (w5.alloc (.cells #[.slice A5 m5 c5, .int .i64 a', .int .i64 b', .int .u64 s'] 27)).heap.size (w5.alloc (.cells #[.slice A5 m5 c5, .int .i64 a', .int .i64 b', .int .u64 s'] 27)) W → Calls Try.prog 17 #[.agg #[.slice A5 m5 c5, .int .i64 a', .int .i64 b', .int .u64 s']] W (fun e w' => e = .returned (.bool false) ∧ Below W.heap.size W w')) := ⟨fun W hW => by
                                  have hcc := ref_version (c := c5) a' b' s' (show kRn.C W A5 O.length O from Kd.C_below (Kd.R_reads' HR6.out).2.2 hW) HByO.out
                                  rw [← Hm5.out] at hcc
                                  exact hcc.mono (fun e w' ⟨b, he, hb, hB⟩ => ⟨by rw [he]; cases b with | false => rfl | true => exact absurd (hb.1 rfl) hvo, hB⟩)⟩
                              have HR := Kp.mk (HBad.out (fun hg => by have h9 := hg.2.2.2; rw [← HO.out, ← Ha'.out, ← Hb'.out, ← Hs'.out] at h9; exact hvo h9))
                              clear hvo HBad HGd
                              have PK := Kp.mk (And.intro HR.out (And.intro HJ.out (And.intro HZ6.out (And.intro HR6.out HSz.out))))
                              (try clear HR);(try clear HJ);(try clear HZ6);(try clear HR6);(try clear HSz);(try clear H);(try clear H1);(try clear H2);(try clear HBy);(try clear HBy1);(try clear HVt);(try clear HEt);(try clear HN);(try clear HLF);(try clear HAll);(try clear HLo);(try clear HNt);(try clear HSR);(try clear HIs);(try clear HRow);(try clear HLe);(try clear HOut);(try clear HLO);(try clear HByO);(try clear HO);(try clear Hm5);(try clear Ha');(try clear Hb');(try clear Hs');(try clear G1);(try clear G2);(try clear G3);(try clear HBad);(try clear HGd);(try clear hn);(try clear hn1);(try clear hn2);(try clear hm);(try clear hm1);(try clear hm2);(try clear hsq);(try clear hesq);(try clear hc2);(try clear w1');(try clear w2');(try clear w5');(try clear w3');(try clear w4');(try clear bl);(try clear bd);(try clear bd2);(try clear bx);(try clear Hbb);(try clear hab);(try clear hbr);(try clear HL);(try clear HL1);(try clear HL2);(try clear hk);(try clear hd0);(try clear e1)
                              refine wp_region_below_seq ?_
                              repeat (first | go_big_quiet_step ((go_at_call 17; exact calls_blw (HRV.out _ (Blw.h _)))) | quiet_step ((go_at_call 17; exact calls_blw (HRV.out _ (Blw.h _)))))
                              refine wpQuiet_nil ?_
                              rintro _ ⟨pq, rfl⟩
                              have HR := Kp.mk PK.out.1
                              have HJ7 := Kp.mk (PK.out.2.1.below pq.h)
                              have HZ7 := Kp.mk ((pq.h.block _ (lt_of_block PK.out.2.2.1)).trans PK.out.2.2.1)
                              have HR7 := Kp.mk (Kd.R_below PK.out.2.2.2.1 pq.h)
                              have HSz := Kp.mk PK.out.2.2.2.2
                              clear Bv1 Bv2 Bv3 Be2 Be3 Be4 Bq0 Bq1 Bq2 Bq3 PK
                              clear HRV
                              have o0 := cells_top HJ7.out.z9 0 (.slice none 0 0) rfl;have r0 := cells_top HJ7.out.z8 0 (.slice none 0 0) rfl;have g0 := free_top HJ7.out.z8 0;have o1 := cells_top HJ7.out.z9 1 (.int .i64 0) rfl;have r1 := cells_top HJ7.out.z8 1 (.int .i64 0) rfl;have g1 := free_top HJ7.out.z8 1;have o2 := cells_top HJ7.out.z9 2 (.int .i64 0) rfl;have r2 := cells_top HJ7.out.z8 2 (.int .i64 0) rfl;have g2 := free_top HJ7.out.z8 2;have o3 := cells_top HJ7.out.z9 3 (.int .u64 0) rfl;have r3 := cells_top HJ7.out.z8 3 (.int .u64 0) rfl;have g3 := free_top HJ7.out.z8 3
                              have HZ := Jn.ret HJ7.out
                              (try simp only []); repeat (first | go_values | go_skip | go_guarded | go_step)
                              try simp only [Exit.inBlock, Exit.then]
                              refine @ret_ct ?P1578 ?fn1578 ?R1578 ?a1578 ?w1578 ?ty1578 (w.heap.size + 1 + 1) ?t1578 ?cs1578 ?fr1578 ?d1578 ?v1578 ?g1x1578 ?g2x1578 ?g3x1578 ?g4x1578 ?g5x1578 ?g6x1578 ?g7x1578 ?g8x1578 ?g9x1578
                              (case g1x1578 => exact rfl);(case g2x1578 => exact rfl);(case g3x1578 => exact rfl);(case g4x1578 => exact HZ.1);(case g5x1578 => exact Try.underlying27);(case g6x1578 => exact rfl);(case g7x1578 => kernel_rfl);(case g8x1578 => exact rfl)
                              exact ⟨10, [], 0, 0, 0, _, rfl, HR.out, Kd.R_nil _ _ _ _ _, HZ.2.2⟩
                  · have t0 : (enx != 0) = true := by simpa using h0
                    by_cases k0 : enx < nx
                    · have u0 : decide (enx < nx) = true := decide_eq_true k0
                      have HR := Kp.mk (HBad.out (fun hg => by have h9 := hg.1; unfold laterB at h9; have := of_decide_eq_true h9; omega))
                      clear h0 k0 HBad HGd
                      have PK := Kp.mk (And.intro HR.out (And.intro HJ.out (And.intro HZ6.out (And.intro HR6.out HSz.out))))
                      (try clear HR);(try clear HJ);(try clear HZ6);(try clear HR6);(try clear HSz);(try clear H);(try clear H1);(try clear H2);(try clear HBy);(try clear HBy1);(try clear HVt);(try clear HEt);(try clear HN);(try clear HLF);(try clear HAll);(try clear HLo);(try clear HNt);(try clear HSR);(try clear HIs);(try clear HRow);(try clear HLe);(try clear HOut);(try clear HLO);(try clear HByO);(try clear HO);(try clear Hm5);(try clear Ha');(try clear Hb');(try clear Hs');(try clear G1);(try clear G2);(try clear G3);(try clear HBad);(try clear HGd);(try clear hn);(try clear hn1);(try clear hn2);(try clear hm);(try clear hm1);(try clear hm2);(try clear hsq);(try clear hesq);(try clear hc2);(try clear w1');(try clear w2');(try clear w5');(try clear w3');(try clear w4');(try clear bl);(try clear bd);(try clear bd2);(try clear bx);(try clear Hbb);(try clear hab);(try clear hbr);(try clear HL);(try clear HL1);(try clear HL2);(try clear hk);(try clear hd0);(try clear e1)
                      refine wp_region_below_seq ?_
                      repeat (first | go_big_quiet_step (fail) | quiet_step (fail))
                      refine wpQuiet_nil ?_
                      rintro _ ⟨pq, rfl⟩
                      have HR := Kp.mk PK.out.1
                      have HJ7 := Kp.mk (PK.out.2.1.below pq.h)
                      have HZ7 := Kp.mk ((pq.h.block _ (lt_of_block PK.out.2.2.1)).trans PK.out.2.2.1)
                      have HR7 := Kp.mk (Kd.R_below PK.out.2.2.2.1 pq.h)
                      have HSz := Kp.mk PK.out.2.2.2.2
                      clear Bv1 Bv2 Bv3 Be2 Be3 Be4 Bq0 Bq1 Bq2 Bq3 PK
                      have o0 := cells_top HJ7.out.z9 0 (.slice none 0 0) rfl;have r0 := cells_top HJ7.out.z8 0 (.slice none 0 0) rfl;have g0 := free_top HJ7.out.z8 0;have o1 := cells_top HJ7.out.z9 1 (.int .i64 0) rfl;have r1 := cells_top HJ7.out.z8 1 (.int .i64 0) rfl;have g1 := free_top HJ7.out.z8 1;have o2 := cells_top HJ7.out.z9 2 (.int .i64 0) rfl;have r2 := cells_top HJ7.out.z8 2 (.int .i64 0) rfl;have g2 := free_top HJ7.out.z8 2;have o3 := cells_top HJ7.out.z9 3 (.int .u64 0) rfl;have r3 := cells_top HJ7.out.z8 3 (.int .u64 0) rfl;have g3 := free_top HJ7.out.z8 3
                      have HZ := Jn.ret HJ7.out
                      (try simp only []); repeat (first | go_values | go_skip | go_guarded | go_step)
                      try simp only [Exit.inBlock, Exit.then]
                      refine @ret_ct ?P1680 ?fn1680 ?R1680 ?a1680 ?w1680 ?ty1680 (w.heap.size + 1 + 1) ?t1680 ?cs1680 ?fr1680 ?d1680 ?v1680 ?g1x1680 ?g2x1680 ?g3x1680 ?g4x1680 ?g5x1680 ?g6x1680 ?g7x1680 ?g8x1680 ?g9x1680
                      (case g1x1680 => exact rfl);(case g2x1680 => exact rfl);(case g3x1680 => exact rfl);(case g4x1680 => exact HZ.1);(case g5x1680 => exact Try.underlying27);(case g6x1680 => exact rfl);(case g7x1680 => kernel_rfl);(case g8x1680 => exact rfl)
                      exact ⟨10, [], 0, 0, 0, _, rfl, HR.out, Kd.R_nil _ _ _ _ _, HZ.2.2⟩
                    · have u0 : decide (enx < nx) = false := decide_eq_false k0
                      have G1 : Kp (laterB nx enx = true) := ⟨by unfold laterB; exact decide_eq_true (.inr (by omega))⟩
                      clear h0 k0
                      by_cases h1 : elg = 0
                      · have t1 : (elg != 0) = false := by simpa using h1
                        have G2 : Kp (laterB lg elg = true) := ⟨by simp [laterB, h1]⟩
                        clear h1
                        by_cases h2 : esq = 0
                        · have t2 : (esq != 0) = false := by simpa using h2
                          have G3 : Kp (sq ≤ outS sq esq) := ⟨by unfold outS; rw [if_neg (by omega)]; exact Int.le_refl _⟩
                          clear h2
                          by_cases hvo : VOk O a' b' s'
                          · have HRV : Kp (∀ W, Below (w5.alloc (.cells #[.slice A5 m5 c5, .int .i64 a', .int .i64 b', .int .u64 s'] 27)).heap.size (w5.alloc (.cells #[.slice A5 m5 c5, .int .i64 a', .int .i64 b', .int .u64 s'] 27)) W → Calls Try.prog 17 #[.agg #[.slice A5 m5 c5, .int .i64 a', .int .i64 b', .int .u64 s']] W (fun e w' => e = .returned (.bool true) ∧ Below W.heap.size W w')) := ⟨fun W hW => by
                                have hcc := ref_version (c := c5) a' b' s' (show kRn.C W A5 O.length O from Kd.C_below (Kd.R_reads' HR6.out).2.2 hW) HByO.out
                                rw [← Hm5.out] at hcc
                                exact hcc.mono (fun e w' ⟨b, he, hb, hB⟩ => ⟨by rw [he, hb.2 hvo], hB⟩)⟩
                            have HR := Kp.mk (HGd.out ⟨G1.out, G2.out, G3.out, by rw [HO.out, Ha'.out, Hb'.out, Hs'.out] at hvo; exact hvo⟩)
                            clear hvo HBad HGd
                            have PK := Kp.mk (And.intro HR.out (And.intro HJ.out (And.intro HZ6.out (And.intro HR6.out HSz.out))))
                            (try clear HR);(try clear HJ);(try clear HZ6);(try clear HR6);(try clear HSz);(try clear H);(try clear H1);(try clear H2);(try clear HBy);(try clear HBy1);(try clear HVt);(try clear HEt);(try clear HN);(try clear HLF);(try clear HAll);(try clear HLo);(try clear HNt);(try clear HSR);(try clear HIs);(try clear HRow);(try clear HLe);(try clear HOut);(try clear HLO);(try clear HByO);(try clear HO);(try clear Hm5);(try clear Ha');(try clear Hb');(try clear Hs');(try clear G1);(try clear G2);(try clear G3);(try clear HBad);(try clear HGd);(try clear hn);(try clear hn1);(try clear hn2);(try clear hm);(try clear hm1);(try clear hm2);(try clear hsq);(try clear hesq);(try clear hc2);(try clear w1');(try clear w2');(try clear w5');(try clear w3');(try clear w4');(try clear bl);(try clear bd);(try clear bd2);(try clear bx);(try clear Hbb);(try clear hab);(try clear hbr);(try clear HL);(try clear HL1);(try clear HL2);(try clear hk);(try clear hd0);(try clear e1)
                            refine wp_region_below_seq ?_
                            repeat (first | go_big_quiet_step ((go_at_call 17; exact calls_blw (HRV.out _ (Blw.h _)))) | quiet_step ((go_at_call 17; exact calls_blw (HRV.out _ (Blw.h _)))))
                            refine wpQuiet_nil ?_
                            rintro _ ⟨pq, rfl⟩
                            have HR := Kp.mk PK.out.1
                            have HJ7 := Kp.mk (PK.out.2.1.below pq.h)
                            have HZ7 := Kp.mk ((pq.h.block _ (lt_of_block PK.out.2.2.1)).trans PK.out.2.2.1)
                            have HR7 := Kp.mk (Kd.R_below PK.out.2.2.2.1 pq.h)
                            have HSz := Kp.mk PK.out.2.2.2.2
                            clear Bv1 Bv2 Bv3 Be2 Be3 Be4 Bq0 Bq1 Bq2 Bq3 PK
                            clear HRV
                            have q0 := cells_top HZ7.out 0 (.slice A5 m5 c5) rfl;have q1 := cells_top HZ7.out 1 (.int .i64 a') rfl;have q2 := cells_top HZ7.out 2 (.int .i64 b') rfl;have q3 := cells_top HZ7.out 3 (.int .u64 s') rfl;have r0 := cells_top HJ7.out.z8 0 (.slice none 0 0) rfl;have g0 := free_top HJ7.out.z8 0;have r1 := cells_top HJ7.out.z8 1 (.int .i64 0) rfl;have g1 := free_top HJ7.out.z8 1;have r2 := cells_top HJ7.out.z8 2 (.int .i64 0) rfl;have g2 := free_top HJ7.out.z8 2;have r3 := cells_top HJ7.out.z8 3 (.int .u64 0) rfl;have g3 := free_top HJ7.out.z8 3
                            have HZ := laid4 HJ7.out.z8 (.slice A5 m5 c5) (.int .i64 a') (.int .i64 b') (.int .u64 s')
                            have HP := Kp.mk (put_R (Kd.R_lower HR7.out HSz.out) HJ7.out.z8 (.slice A5 m5 c5) (.int .i64 a') (.int .i64 b') (.int .u64 s'))
                            (try simp only []); repeat (first | go_values | go_skip | go_guarded | go_step)
                            try simp only [Exit.inBlock, Exit.then]
                            refine @ret_ct ?P1797 ?fn1797 ?R1797 ?a1797 ?w1797 ?ty1797 (w.heap.size + 1 + 1) ?t1797 ?cs1797 ?fr1797 ?d1797 ?v1797 ?g1x1797 ?g2x1797 ?g3x1797 ?g4x1797 ?g5x1797 ?g6x1797 ?g7x1797 ?g8x1797 ?g9x1797
                            (case g1x1797 => exact rfl);(case g2x1797 => exact rfl);(case g3x1797 => exact rfl);(case g4x1797 => exact HZ);(case g5x1797 => exact Try.underlying27);(case g6x1797 => exact rfl);(case g7x1797 => kernel_rfl);(case g8x1797 => exact rfl)
                            have ub : w.heap.size ≤ w.heap.size + 1 + 1 := Nat.le_add_right _ 2
                            exact ⟨0, O, a', b', s', _, rfl, HR.out, HP.out, (((HJ7.out.b.setCell ub _).setCell ub _).setCell ub _).setCell ub _⟩
                          · have HRV : Kp (∀ W, Below (w5.alloc (.cells #[.slice A5 m5 c5, .int .i64 a', .int .i64 b', .int .u64 s'] 27)).heap.size (w5.alloc (.cells #[.slice A5 m5 c5, .int .i64 a', .int .i64 b', .int .u64 s'] 27)) W → Calls Try.prog 17 #[.agg #[.slice A5 m5 c5, .int .i64 a', .int .i64 b', .int .u64 s']] W (fun e w' => e = .returned (.bool false) ∧ Below W.heap.size W w')) := ⟨fun W hW => by
                                have hcc := ref_version (c := c5) a' b' s' (show kRn.C W A5 O.length O from Kd.C_below (Kd.R_reads' HR6.out).2.2 hW) HByO.out
                                rw [← Hm5.out] at hcc
                                exact hcc.mono (fun e w' ⟨b, he, hb, hB⟩ => ⟨by rw [he]; cases b with | false => rfl | true => exact absurd (hb.1 rfl) hvo, hB⟩)⟩
                            have HR := Kp.mk (HBad.out (fun hg => by have h9 := hg.2.2.2; rw [← HO.out, ← Ha'.out, ← Hb'.out, ← Hs'.out] at h9; exact hvo h9))
                            clear hvo HBad HGd
                            have PK := Kp.mk (And.intro HR.out (And.intro HJ.out (And.intro HZ6.out (And.intro HR6.out HSz.out))))
                            (try clear HR);(try clear HJ);(try clear HZ6);(try clear HR6);(try clear HSz);(try clear H);(try clear H1);(try clear H2);(try clear HBy);(try clear HBy1);(try clear HVt);(try clear HEt);(try clear HN);(try clear HLF);(try clear HAll);(try clear HLo);(try clear HNt);(try clear HSR);(try clear HIs);(try clear HRow);(try clear HLe);(try clear HOut);(try clear HLO);(try clear HByO);(try clear HO);(try clear Hm5);(try clear Ha');(try clear Hb');(try clear Hs');(try clear G1);(try clear G2);(try clear G3);(try clear HBad);(try clear HGd);(try clear hn);(try clear hn1);(try clear hn2);(try clear hm);(try clear hm1);(try clear hm2);(try clear hsq);(try clear hesq);(try clear hc2);(try clear w1');(try clear w2');(try clear w5');(try clear w3');(try clear w4');(try clear bl);(try clear bd);(try clear bd2);(try clear bx);(try clear Hbb);(try clear hab);(try clear hbr);(try clear HL);(try clear HL1);(try clear HL2);(try clear hk);(try clear hd0);(try clear e1)
                            refine wp_region_below_seq ?_
                            repeat (first | go_big_quiet_step ((go_at_call 17; exact calls_blw (HRV.out _ (Blw.h _)))) | quiet_step ((go_at_call 17; exact calls_blw (HRV.out _ (Blw.h _)))))
                            refine wpQuiet_nil ?_
                            rintro _ ⟨pq, rfl⟩
                            have HR := Kp.mk PK.out.1
                            have HJ7 := Kp.mk (PK.out.2.1.below pq.h)
                            have HZ7 := Kp.mk ((pq.h.block _ (lt_of_block PK.out.2.2.1)).trans PK.out.2.2.1)
                            have HR7 := Kp.mk (Kd.R_below PK.out.2.2.2.1 pq.h)
                            have HSz := Kp.mk PK.out.2.2.2.2
                            clear Bv1 Bv2 Bv3 Be2 Be3 Be4 Bq0 Bq1 Bq2 Bq3 PK
                            clear HRV
                            have o0 := cells_top HJ7.out.z9 0 (.slice none 0 0) rfl;have r0 := cells_top HJ7.out.z8 0 (.slice none 0 0) rfl;have g0 := free_top HJ7.out.z8 0;have o1 := cells_top HJ7.out.z9 1 (.int .i64 0) rfl;have r1 := cells_top HJ7.out.z8 1 (.int .i64 0) rfl;have g1 := free_top HJ7.out.z8 1;have o2 := cells_top HJ7.out.z9 2 (.int .i64 0) rfl;have r2 := cells_top HJ7.out.z8 2 (.int .i64 0) rfl;have g2 := free_top HJ7.out.z8 2;have o3 := cells_top HJ7.out.z9 3 (.int .u64 0) rfl;have r3 := cells_top HJ7.out.z8 3 (.int .u64 0) rfl;have g3 := free_top HJ7.out.z8 3
                            have HZ := Jn.ret HJ7.out
                            (try simp only []); repeat (first | go_values | go_skip | go_guarded | go_step)
                            try simp only [Exit.inBlock, Exit.then]
                            refine @ret_ct ?P1902 ?fn1902 ?R1902 ?a1902 ?w1902 ?ty1902 (w.heap.size + 1 + 1) ?t1902 ?cs1902 ?fr1902 ?d1902 ?v1902 ?g1x1902 ?g2x1902 ?g3x1902 ?g4x1902 ?g5x1902 ?g6x1902 ?g7x1902 ?g8x1902 ?g9x1902
                            (case g1x1902 => exact rfl);(case g2x1902 => exact rfl);(case g3x1902 => exact rfl);(case g4x1902 => exact HZ.1);(case g5x1902 => exact Try.underlying27);(case g6x1902 => exact rfl);(case g7x1902 => kernel_rfl);(case g8x1902 => exact rfl)
                            exact ⟨10, [], 0, 0, 0, _, rfl, HR.out, Kd.R_nil _ _ _ _ _, HZ.2.2⟩
                        · have t2 : (esq != 0) = true := by simpa using h2
                          by_cases k2 : esq < sq
                          · have u2 : decide (esq < sq) = true := decide_eq_true k2
                            have HR := Kp.mk (HBad.out (fun hg => by have h9 := hg.2.2.1; unfold outS at h9; rw [if_pos (by omega)] at h9; omega))
                            clear h2 k2 HBad HGd
                            have PK := Kp.mk (And.intro HR.out (And.intro HJ.out (And.intro HZ6.out (And.intro HR6.out HSz.out))))
                            (try clear HR);(try clear HJ);(try clear HZ6);(try clear HR6);(try clear HSz);(try clear H);(try clear H1);(try clear H2);(try clear HBy);(try clear HBy1);(try clear HVt);(try clear HEt);(try clear HN);(try clear HLF);(try clear HAll);(try clear HLo);(try clear HNt);(try clear HSR);(try clear HIs);(try clear HRow);(try clear HLe);(try clear HOut);(try clear HLO);(try clear HByO);(try clear HO);(try clear Hm5);(try clear Ha');(try clear Hb');(try clear Hs');(try clear G1);(try clear G2);(try clear G3);(try clear HBad);(try clear HGd);(try clear hn);(try clear hn1);(try clear hn2);(try clear hm);(try clear hm1);(try clear hm2);(try clear hsq);(try clear hesq);(try clear hc2);(try clear w1');(try clear w2');(try clear w5');(try clear w3');(try clear w4');(try clear bl);(try clear bd);(try clear bd2);(try clear bx);(try clear Hbb);(try clear hab);(try clear hbr);(try clear HL);(try clear HL1);(try clear HL2);(try clear hk);(try clear hd0);(try clear e1)
                            refine wp_region_below_seq ?_
                            repeat (first | go_big_quiet_step (fail) | quiet_step (fail))
                            refine wpQuiet_nil ?_
                            rintro _ ⟨pq, rfl⟩
                            have HR := Kp.mk PK.out.1
                            have HJ7 := Kp.mk (PK.out.2.1.below pq.h)
                            have HZ7 := Kp.mk ((pq.h.block _ (lt_of_block PK.out.2.2.1)).trans PK.out.2.2.1)
                            have HR7 := Kp.mk (Kd.R_below PK.out.2.2.2.1 pq.h)
                            have HSz := Kp.mk PK.out.2.2.2.2
                            clear Bv1 Bv2 Bv3 Be2 Be3 Be4 Bq0 Bq1 Bq2 Bq3 PK
                            have o0 := cells_top HJ7.out.z9 0 (.slice none 0 0) rfl;have r0 := cells_top HJ7.out.z8 0 (.slice none 0 0) rfl;have g0 := free_top HJ7.out.z8 0;have o1 := cells_top HJ7.out.z9 1 (.int .i64 0) rfl;have r1 := cells_top HJ7.out.z8 1 (.int .i64 0) rfl;have g1 := free_top HJ7.out.z8 1;have o2 := cells_top HJ7.out.z9 2 (.int .i64 0) rfl;have r2 := cells_top HJ7.out.z8 2 (.int .i64 0) rfl;have g2 := free_top HJ7.out.z8 2;have o3 := cells_top HJ7.out.z9 3 (.int .u64 0) rfl;have r3 := cells_top HJ7.out.z8 3 (.int .u64 0) rfl;have g3 := free_top HJ7.out.z8 3
                            have HZ := Jn.ret HJ7.out
                            (try simp only []); repeat (first | go_values | go_skip | go_guarded | go_step)
                            try simp only [Exit.inBlock, Exit.then]
                            refine @ret_ct ?P2004 ?fn2004 ?R2004 ?a2004 ?w2004 ?ty2004 (w.heap.size + 1 + 1) ?t2004 ?cs2004 ?fr2004 ?d2004 ?v2004 ?g1x2004 ?g2x2004 ?g3x2004 ?g4x2004 ?g5x2004 ?g6x2004 ?g7x2004 ?g8x2004 ?g9x2004
                            (case g1x2004 => exact rfl);(case g2x2004 => exact rfl);(case g3x2004 => exact rfl);(case g4x2004 => exact HZ.1);(case g5x2004 => exact Try.underlying27);(case g6x2004 => exact rfl);(case g7x2004 => kernel_rfl);(case g8x2004 => exact rfl)
                            exact ⟨10, [], 0, 0, 0, _, rfl, HR.out, Kd.R_nil _ _ _ _ _, HZ.2.2⟩
                          · have u2 : decide (esq < sq) = false := decide_eq_false k2
                            have G3 : Kp (sq ≤ outS sq esq) := ⟨by unfold outS; rw [if_pos (by omega)]; omega⟩
                            clear h2 k2
                            by_cases hvo : VOk O a' b' s'
                            · have HRV : Kp (∀ W, Below (w5.alloc (.cells #[.slice A5 m5 c5, .int .i64 a', .int .i64 b', .int .u64 s'] 27)).heap.size (w5.alloc (.cells #[.slice A5 m5 c5, .int .i64 a', .int .i64 b', .int .u64 s'] 27)) W → Calls Try.prog 17 #[.agg #[.slice A5 m5 c5, .int .i64 a', .int .i64 b', .int .u64 s']] W (fun e w' => e = .returned (.bool true) ∧ Below W.heap.size W w')) := ⟨fun W hW => by
                                  have hcc := ref_version (c := c5) a' b' s' (show kRn.C W A5 O.length O from Kd.C_below (Kd.R_reads' HR6.out).2.2 hW) HByO.out
                                  rw [← Hm5.out] at hcc
                                  exact hcc.mono (fun e w' ⟨b, he, hb, hB⟩ => ⟨by rw [he, hb.2 hvo], hB⟩)⟩
                              have HR := Kp.mk (HGd.out ⟨G1.out, G2.out, G3.out, by rw [HO.out, Ha'.out, Hb'.out, Hs'.out] at hvo; exact hvo⟩)
                              clear hvo HBad HGd
                              have PK := Kp.mk (And.intro HR.out (And.intro HJ.out (And.intro HZ6.out (And.intro HR6.out HSz.out))))
                              (try clear HR);(try clear HJ);(try clear HZ6);(try clear HR6);(try clear HSz);(try clear H);(try clear H1);(try clear H2);(try clear HBy);(try clear HBy1);(try clear HVt);(try clear HEt);(try clear HN);(try clear HLF);(try clear HAll);(try clear HLo);(try clear HNt);(try clear HSR);(try clear HIs);(try clear HRow);(try clear HLe);(try clear HOut);(try clear HLO);(try clear HByO);(try clear HO);(try clear Hm5);(try clear Ha');(try clear Hb');(try clear Hs');(try clear G1);(try clear G2);(try clear G3);(try clear HBad);(try clear HGd);(try clear hn);(try clear hn1);(try clear hn2);(try clear hm);(try clear hm1);(try clear hm2);(try clear hsq);(try clear hesq);(try clear hc2);(try clear w1');(try clear w2');(try clear w5');(try clear w3');(try clear w4');(try clear bl);(try clear bd);(try clear bd2);(try clear bx);(try clear Hbb);(try clear hab);(try clear hbr);(try clear HL);(try clear HL1);(try clear HL2);(try clear hk);(try clear hd0);(try clear e1)
                              refine wp_region_below_seq ?_
                              repeat (first | go_big_quiet_step ((go_at_call 17; exact calls_blw (HRV.out _ (Blw.h _)))) | quiet_step ((go_at_call 17; exact calls_blw (HRV.out _ (Blw.h _)))))
                              refine wpQuiet_nil ?_
                              rintro _ ⟨pq, rfl⟩
                              have HR := Kp.mk PK.out.1
                              have HJ7 := Kp.mk (PK.out.2.1.below pq.h)
                              have HZ7 := Kp.mk ((pq.h.block _ (lt_of_block PK.out.2.2.1)).trans PK.out.2.2.1)
                              have HR7 := Kp.mk (Kd.R_below PK.out.2.2.2.1 pq.h)
                              have HSz := Kp.mk PK.out.2.2.2.2
                              clear Bv1 Bv2 Bv3 Be2 Be3 Be4 Bq0 Bq1 Bq2 Bq3 PK
                              clear HRV
                              have q0 := cells_top HZ7.out 0 (.slice A5 m5 c5) rfl;have q1 := cells_top HZ7.out 1 (.int .i64 a') rfl;have q2 := cells_top HZ7.out 2 (.int .i64 b') rfl;have q3 := cells_top HZ7.out 3 (.int .u64 s') rfl;have r0 := cells_top HJ7.out.z8 0 (.slice none 0 0) rfl;have g0 := free_top HJ7.out.z8 0;have r1 := cells_top HJ7.out.z8 1 (.int .i64 0) rfl;have g1 := free_top HJ7.out.z8 1;have r2 := cells_top HJ7.out.z8 2 (.int .i64 0) rfl;have g2 := free_top HJ7.out.z8 2;have r3 := cells_top HJ7.out.z8 3 (.int .u64 0) rfl;have g3 := free_top HJ7.out.z8 3
                              have HZ := laid4 HJ7.out.z8 (.slice A5 m5 c5) (.int .i64 a') (.int .i64 b') (.int .u64 s')
                              have HP := Kp.mk (put_R (Kd.R_lower HR7.out HSz.out) HJ7.out.z8 (.slice A5 m5 c5) (.int .i64 a') (.int .i64 b') (.int .u64 s'))
                              (try simp only []); repeat (first | go_values | go_skip | go_guarded | go_step)
                              try simp only [Exit.inBlock, Exit.then]
                              refine @ret_ct ?P2113 ?fn2113 ?R2113 ?a2113 ?w2113 ?ty2113 (w.heap.size + 1 + 1) ?t2113 ?cs2113 ?fr2113 ?d2113 ?v2113 ?g1x2113 ?g2x2113 ?g3x2113 ?g4x2113 ?g5x2113 ?g6x2113 ?g7x2113 ?g8x2113 ?g9x2113
                              (case g1x2113 => exact rfl);(case g2x2113 => exact rfl);(case g3x2113 => exact rfl);(case g4x2113 => exact HZ);(case g5x2113 => exact Try.underlying27);(case g6x2113 => exact rfl);(case g7x2113 => kernel_rfl);(case g8x2113 => exact rfl)
                              have ub : w.heap.size ≤ w.heap.size + 1 + 1 := Nat.le_add_right _ 2
                              exact ⟨0, O, a', b', s', _, rfl, HR.out, HP.out, (((HJ7.out.b.setCell ub _).setCell ub _).setCell ub _).setCell ub _⟩
                            · have HRV : Kp (∀ W, Below (w5.alloc (.cells #[.slice A5 m5 c5, .int .i64 a', .int .i64 b', .int .u64 s'] 27)).heap.size (w5.alloc (.cells #[.slice A5 m5 c5, .int .i64 a', .int .i64 b', .int .u64 s'] 27)) W → Calls Try.prog 17 #[.agg #[.slice A5 m5 c5, .int .i64 a', .int .i64 b', .int .u64 s']] W (fun e w' => e = .returned (.bool false) ∧ Below W.heap.size W w')) := ⟨fun W hW => by
                                  have hcc := ref_version (c := c5) a' b' s' (show kRn.C W A5 O.length O from Kd.C_below (Kd.R_reads' HR6.out).2.2 hW) HByO.out
                                  rw [← Hm5.out] at hcc
                                  exact hcc.mono (fun e w' ⟨b, he, hb, hB⟩ => ⟨by rw [he]; cases b with | false => rfl | true => exact absurd (hb.1 rfl) hvo, hB⟩)⟩
                              have HR := Kp.mk (HBad.out (fun hg => by have h9 := hg.2.2.2; rw [← HO.out, ← Ha'.out, ← Hb'.out, ← Hs'.out] at h9; exact hvo h9))
                              clear hvo HBad HGd
                              have PK := Kp.mk (And.intro HR.out (And.intro HJ.out (And.intro HZ6.out (And.intro HR6.out HSz.out))))
                              (try clear HR);(try clear HJ);(try clear HZ6);(try clear HR6);(try clear HSz);(try clear H);(try clear H1);(try clear H2);(try clear HBy);(try clear HBy1);(try clear HVt);(try clear HEt);(try clear HN);(try clear HLF);(try clear HAll);(try clear HLo);(try clear HNt);(try clear HSR);(try clear HIs);(try clear HRow);(try clear HLe);(try clear HOut);(try clear HLO);(try clear HByO);(try clear HO);(try clear Hm5);(try clear Ha');(try clear Hb');(try clear Hs');(try clear G1);(try clear G2);(try clear G3);(try clear HBad);(try clear HGd);(try clear hn);(try clear hn1);(try clear hn2);(try clear hm);(try clear hm1);(try clear hm2);(try clear hsq);(try clear hesq);(try clear hc2);(try clear w1');(try clear w2');(try clear w5');(try clear w3');(try clear w4');(try clear bl);(try clear bd);(try clear bd2);(try clear bx);(try clear Hbb);(try clear hab);(try clear hbr);(try clear HL);(try clear HL1);(try clear HL2);(try clear hk);(try clear hd0);(try clear e1)
                              refine wp_region_below_seq ?_
                              repeat (first | go_big_quiet_step ((go_at_call 17; exact calls_blw (HRV.out _ (Blw.h _)))) | quiet_step ((go_at_call 17; exact calls_blw (HRV.out _ (Blw.h _)))))
                              refine wpQuiet_nil ?_
                              rintro _ ⟨pq, rfl⟩
                              have HR := Kp.mk PK.out.1
                              have HJ7 := Kp.mk (PK.out.2.1.below pq.h)
                              have HZ7 := Kp.mk ((pq.h.block _ (lt_of_block PK.out.2.2.1)).trans PK.out.2.2.1)
                              have HR7 := Kp.mk (Kd.R_below PK.out.2.2.2.1 pq.h)
                              have HSz := Kp.mk PK.out.2.2.2.2
                              clear Bv1 Bv2 Bv3 Be2 Be3 Be4 Bq0 Bq1 Bq2 Bq3 PK
                              clear HRV
                              have o0 := cells_top HJ7.out.z9 0 (.slice none 0 0) rfl;have r0 := cells_top HJ7.out.z8 0 (.slice none 0 0) rfl;have g0 := free_top HJ7.out.z8 0;have o1 := cells_top HJ7.out.z9 1 (.int .i64 0) rfl;have r1 := cells_top HJ7.out.z8 1 (.int .i64 0) rfl;have g1 := free_top HJ7.out.z8 1;have o2 := cells_top HJ7.out.z9 2 (.int .i64 0) rfl;have r2 := cells_top HJ7.out.z8 2 (.int .i64 0) rfl;have g2 := free_top HJ7.out.z8 2;have o3 := cells_top HJ7.out.z9 3 (.int .u64 0) rfl;have r3 := cells_top HJ7.out.z8 3 (.int .u64 0) rfl;have g3 := free_top HJ7.out.z8 3
                              have HZ := Jn.ret HJ7.out
                              (try simp only []); repeat (first | go_values | go_skip | go_guarded | go_step)
                              try simp only [Exit.inBlock, Exit.then]
                              refine @ret_ct ?P2218 ?fn2218 ?R2218 ?a2218 ?w2218 ?ty2218 (w.heap.size + 1 + 1) ?t2218 ?cs2218 ?fr2218 ?d2218 ?v2218 ?g1x2218 ?g2x2218 ?g3x2218 ?g4x2218 ?g5x2218 ?g6x2218 ?g7x2218 ?g8x2218 ?g9x2218
                              (case g1x2218 => exact rfl);(case g2x2218 => exact rfl);(case g3x2218 => exact rfl);(case g4x2218 => exact HZ.1);(case g5x2218 => exact Try.underlying27);(case g6x2218 => exact rfl);(case g7x2218 => kernel_rfl);(case g8x2218 => exact rfl)
                              exact ⟨10, [], 0, 0, 0, _, rfl, HR.out, Kd.R_nil _ _ _ _ _, HZ.2.2⟩
                      · have t1 : (elg != 0) = true := by simpa using h1
                        by_cases k1 : elg < lg
                        · have u1 : decide (elg < lg) = true := decide_eq_true k1
                          have HR := Kp.mk (HBad.out (fun hg => by have h9 := hg.2.1; unfold laterB at h9; have := of_decide_eq_true h9; omega))
                          clear h1 k1 HBad HGd
                          have PK := Kp.mk (And.intro HR.out (And.intro HJ.out (And.intro HZ6.out (And.intro HR6.out HSz.out))))
                          (try clear HR);(try clear HJ);(try clear HZ6);(try clear HR6);(try clear HSz);(try clear H);(try clear H1);(try clear H2);(try clear HBy);(try clear HBy1);(try clear HVt);(try clear HEt);(try clear HN);(try clear HLF);(try clear HAll);(try clear HLo);(try clear HNt);(try clear HSR);(try clear HIs);(try clear HRow);(try clear HLe);(try clear HOut);(try clear HLO);(try clear HByO);(try clear HO);(try clear Hm5);(try clear Ha');(try clear Hb');(try clear Hs');(try clear G1);(try clear G2);(try clear G3);(try clear HBad);(try clear HGd);(try clear hn);(try clear hn1);(try clear hn2);(try clear hm);(try clear hm1);(try clear hm2);(try clear hsq);(try clear hesq);(try clear hc2);(try clear w1');(try clear w2');(try clear w5');(try clear w3');(try clear w4');(try clear bl);(try clear bd);(try clear bd2);(try clear bx);(try clear Hbb);(try clear hab);(try clear hbr);(try clear HL);(try clear HL1);(try clear HL2);(try clear hk);(try clear hd0);(try clear e1)
                          refine wp_region_below_seq ?_
                          repeat (first | go_big_quiet_step (fail) | quiet_step (fail))
                          refine wpQuiet_nil ?_
                          rintro _ ⟨pq, rfl⟩
                          have HR := Kp.mk PK.out.1
                          have HJ7 := Kp.mk (PK.out.2.1.below pq.h)
                          have HZ7 := Kp.mk ((pq.h.block _ (lt_of_block PK.out.2.2.1)).trans PK.out.2.2.1)
                          have HR7 := Kp.mk (Kd.R_below PK.out.2.2.2.1 pq.h)
                          have HSz := Kp.mk PK.out.2.2.2.2
                          clear Bv1 Bv2 Bv3 Be2 Be3 Be4 Bq0 Bq1 Bq2 Bq3 PK
                          have o0 := cells_top HJ7.out.z9 0 (.slice none 0 0) rfl;have r0 := cells_top HJ7.out.z8 0 (.slice none 0 0) rfl;have g0 := free_top HJ7.out.z8 0;have o1 := cells_top HJ7.out.z9 1 (.int .i64 0) rfl;have r1 := cells_top HJ7.out.z8 1 (.int .i64 0) rfl;have g1 := free_top HJ7.out.z8 1;have o2 := cells_top HJ7.out.z9 2 (.int .i64 0) rfl;have r2 := cells_top HJ7.out.z8 2 (.int .i64 0) rfl;have g2 := free_top HJ7.out.z8 2;have o3 := cells_top HJ7.out.z9 3 (.int .u64 0) rfl;have r3 := cells_top HJ7.out.z8 3 (.int .u64 0) rfl;have g3 := free_top HJ7.out.z8 3
                          have HZ := Jn.ret HJ7.out
                          (try simp only []); repeat (first | go_values | go_skip | go_guarded | go_step)
                          try simp only [Exit.inBlock, Exit.then]
                          refine @ret_ct ?P2320 ?fn2320 ?R2320 ?a2320 ?w2320 ?ty2320 (w.heap.size + 1 + 1) ?t2320 ?cs2320 ?fr2320 ?d2320 ?v2320 ?g1x2320 ?g2x2320 ?g3x2320 ?g4x2320 ?g5x2320 ?g6x2320 ?g7x2320 ?g8x2320 ?g9x2320
                          (case g1x2320 => exact rfl);(case g2x2320 => exact rfl);(case g3x2320 => exact rfl);(case g4x2320 => exact HZ.1);(case g5x2320 => exact Try.underlying27);(case g6x2320 => exact rfl);(case g7x2320 => kernel_rfl);(case g8x2320 => exact rfl)
                          exact ⟨10, [], 0, 0, 0, _, rfl, HR.out, Kd.R_nil _ _ _ _ _, HZ.2.2⟩
                        · have u1 : decide (elg < lg) = false := decide_eq_false k1
                          have G2 : Kp (laterB lg elg = true) := ⟨by unfold laterB; exact decide_eq_true (.inr (by omega))⟩
                          clear h1 k1
                          by_cases h2 : esq = 0
                          · have t2 : (esq != 0) = false := by simpa using h2
                            have G3 : Kp (sq ≤ outS sq esq) := ⟨by unfold outS; rw [if_neg (by omega)]; exact Int.le_refl _⟩
                            clear h2
                            by_cases hvo : VOk O a' b' s'
                            · have HRV : Kp (∀ W, Below (w5.alloc (.cells #[.slice A5 m5 c5, .int .i64 a', .int .i64 b', .int .u64 s'] 27)).heap.size (w5.alloc (.cells #[.slice A5 m5 c5, .int .i64 a', .int .i64 b', .int .u64 s'] 27)) W → Calls Try.prog 17 #[.agg #[.slice A5 m5 c5, .int .i64 a', .int .i64 b', .int .u64 s']] W (fun e w' => e = .returned (.bool true) ∧ Below W.heap.size W w')) := ⟨fun W hW => by
                                  have hcc := ref_version (c := c5) a' b' s' (show kRn.C W A5 O.length O from Kd.C_below (Kd.R_reads' HR6.out).2.2 hW) HByO.out
                                  rw [← Hm5.out] at hcc
                                  exact hcc.mono (fun e w' ⟨b, he, hb, hB⟩ => ⟨by rw [he, hb.2 hvo], hB⟩)⟩
                              have HR := Kp.mk (HGd.out ⟨G1.out, G2.out, G3.out, by rw [HO.out, Ha'.out, Hb'.out, Hs'.out] at hvo; exact hvo⟩)
                              clear hvo HBad HGd
                              have PK := Kp.mk (And.intro HR.out (And.intro HJ.out (And.intro HZ6.out (And.intro HR6.out HSz.out))))
                              (try clear HR);(try clear HJ);(try clear HZ6);(try clear HR6);(try clear HSz);(try clear H);(try clear H1);(try clear H2);(try clear HBy);(try clear HBy1);(try clear HVt);(try clear HEt);(try clear HN);(try clear HLF);(try clear HAll);(try clear HLo);(try clear HNt);(try clear HSR);(try clear HIs);(try clear HRow);(try clear HLe);(try clear HOut);(try clear HLO);(try clear HByO);(try clear HO);(try clear Hm5);(try clear Ha');(try clear Hb');(try clear Hs');(try clear G1);(try clear G2);(try clear G3);(try clear HBad);(try clear HGd);(try clear hn);(try clear hn1);(try clear hn2);(try clear hm);(try clear hm1);(try clear hm2);(try clear hsq);(try clear hesq);(try clear hc2);(try clear w1');(try clear w2');(try clear w5');(try clear w3');(try clear w4');(try clear bl);(try clear bd);(try clear bd2);(try clear bx);(try clear Hbb);(try clear hab);(try clear hbr);(try clear HL);(try clear HL1);(try clear HL2);(try clear hk);(try clear hd0);(try clear e1)
                              refine wp_region_below_seq ?_
                              repeat (first | go_big_quiet_step ((go_at_call 17; exact calls_blw (HRV.out _ (Blw.h _)))) | quiet_step ((go_at_call 17; exact calls_blw (HRV.out _ (Blw.h _)))))
                              refine wpQuiet_nil ?_
                              rintro _ ⟨pq, rfl⟩
                              have HR := Kp.mk PK.out.1
                              have HJ7 := Kp.mk (PK.out.2.1.below pq.h)
                              have HZ7 := Kp.mk ((pq.h.block _ (lt_of_block PK.out.2.2.1)).trans PK.out.2.2.1)
                              have HR7 := Kp.mk (Kd.R_below PK.out.2.2.2.1 pq.h)
                              have HSz := Kp.mk PK.out.2.2.2.2
                              clear Bv1 Bv2 Bv3 Be2 Be3 Be4 Bq0 Bq1 Bq2 Bq3 PK
                              clear HRV
                              have q0 := cells_top HZ7.out 0 (.slice A5 m5 c5) rfl;have q1 := cells_top HZ7.out 1 (.int .i64 a') rfl;have q2 := cells_top HZ7.out 2 (.int .i64 b') rfl;have q3 := cells_top HZ7.out 3 (.int .u64 s') rfl;have r0 := cells_top HJ7.out.z8 0 (.slice none 0 0) rfl;have g0 := free_top HJ7.out.z8 0;have r1 := cells_top HJ7.out.z8 1 (.int .i64 0) rfl;have g1 := free_top HJ7.out.z8 1;have r2 := cells_top HJ7.out.z8 2 (.int .i64 0) rfl;have g2 := free_top HJ7.out.z8 2;have r3 := cells_top HJ7.out.z8 3 (.int .u64 0) rfl;have g3 := free_top HJ7.out.z8 3
                              have HZ := laid4 HJ7.out.z8 (.slice A5 m5 c5) (.int .i64 a') (.int .i64 b') (.int .u64 s')
                              have HP := Kp.mk (put_R (Kd.R_lower HR7.out HSz.out) HJ7.out.z8 (.slice A5 m5 c5) (.int .i64 a') (.int .i64 b') (.int .u64 s'))
                              (try simp only []); repeat (first | go_values | go_skip | go_guarded | go_step)
                              try simp only [Exit.inBlock, Exit.then]
                              refine @ret_ct ?P2433 ?fn2433 ?R2433 ?a2433 ?w2433 ?ty2433 (w.heap.size + 1 + 1) ?t2433 ?cs2433 ?fr2433 ?d2433 ?v2433 ?g1x2433 ?g2x2433 ?g3x2433 ?g4x2433 ?g5x2433 ?g6x2433 ?g7x2433 ?g8x2433 ?g9x2433
                              (case g1x2433 => exact rfl);(case g2x2433 => exact rfl);(case g3x2433 => exact rfl);(case g4x2433 => exact HZ);(case g5x2433 => exact Try.underlying27);(case g6x2433 => exact rfl);(case g7x2433 => kernel_rfl);(case g8x2433 => exact rfl)
                              have ub : w.heap.size ≤ w.heap.size + 1 + 1 := Nat.le_add_right _ 2
                              exact ⟨0, O, a', b', s', _, rfl, HR.out, HP.out, (((HJ7.out.b.setCell ub _).setCell ub _).setCell ub _).setCell ub _⟩
                            · have HRV : Kp (∀ W, Below (w5.alloc (.cells #[.slice A5 m5 c5, .int .i64 a', .int .i64 b', .int .u64 s'] 27)).heap.size (w5.alloc (.cells #[.slice A5 m5 c5, .int .i64 a', .int .i64 b', .int .u64 s'] 27)) W → Calls Try.prog 17 #[.agg #[.slice A5 m5 c5, .int .i64 a', .int .i64 b', .int .u64 s']] W (fun e w' => e = .returned (.bool false) ∧ Below W.heap.size W w')) := ⟨fun W hW => by
                                  have hcc := ref_version (c := c5) a' b' s' (show kRn.C W A5 O.length O from Kd.C_below (Kd.R_reads' HR6.out).2.2 hW) HByO.out
                                  rw [← Hm5.out] at hcc
                                  exact hcc.mono (fun e w' ⟨b, he, hb, hB⟩ => ⟨by rw [he]; cases b with | false => rfl | true => exact absurd (hb.1 rfl) hvo, hB⟩)⟩
                              have HR := Kp.mk (HBad.out (fun hg => by have h9 := hg.2.2.2; rw [← HO.out, ← Ha'.out, ← Hb'.out, ← Hs'.out] at h9; exact hvo h9))
                              clear hvo HBad HGd
                              have PK := Kp.mk (And.intro HR.out (And.intro HJ.out (And.intro HZ6.out (And.intro HR6.out HSz.out))))
                              (try clear HR);(try clear HJ);(try clear HZ6);(try clear HR6);(try clear HSz);(try clear H);(try clear H1);(try clear H2);(try clear HBy);(try clear HBy1);(try clear HVt);(try clear HEt);(try clear HN);(try clear HLF);(try clear HAll);(try clear HLo);(try clear HNt);(try clear HSR);(try clear HIs);(try clear HRow);(try clear HLe);(try clear HOut);(try clear HLO);(try clear HByO);(try clear HO);(try clear Hm5);(try clear Ha');(try clear Hb');(try clear Hs');(try clear G1);(try clear G2);(try clear G3);(try clear HBad);(try clear HGd);(try clear hn);(try clear hn1);(try clear hn2);(try clear hm);(try clear hm1);(try clear hm2);(try clear hsq);(try clear hesq);(try clear hc2);(try clear w1');(try clear w2');(try clear w5');(try clear w3');(try clear w4');(try clear bl);(try clear bd);(try clear bd2);(try clear bx);(try clear Hbb);(try clear hab);(try clear hbr);(try clear HL);(try clear HL1);(try clear HL2);(try clear hk);(try clear hd0);(try clear e1)
                              refine wp_region_below_seq ?_
                              repeat (first | go_big_quiet_step ((go_at_call 17; exact calls_blw (HRV.out _ (Blw.h _)))) | quiet_step ((go_at_call 17; exact calls_blw (HRV.out _ (Blw.h _)))))
                              refine wpQuiet_nil ?_
                              rintro _ ⟨pq, rfl⟩
                              have HR := Kp.mk PK.out.1
                              have HJ7 := Kp.mk (PK.out.2.1.below pq.h)
                              have HZ7 := Kp.mk ((pq.h.block _ (lt_of_block PK.out.2.2.1)).trans PK.out.2.2.1)
                              have HR7 := Kp.mk (Kd.R_below PK.out.2.2.2.1 pq.h)
                              have HSz := Kp.mk PK.out.2.2.2.2
                              clear Bv1 Bv2 Bv3 Be2 Be3 Be4 Bq0 Bq1 Bq2 Bq3 PK
                              clear HRV
                              have o0 := cells_top HJ7.out.z9 0 (.slice none 0 0) rfl;have r0 := cells_top HJ7.out.z8 0 (.slice none 0 0) rfl;have g0 := free_top HJ7.out.z8 0;have o1 := cells_top HJ7.out.z9 1 (.int .i64 0) rfl;have r1 := cells_top HJ7.out.z8 1 (.int .i64 0) rfl;have g1 := free_top HJ7.out.z8 1;have o2 := cells_top HJ7.out.z9 2 (.int .i64 0) rfl;have r2 := cells_top HJ7.out.z8 2 (.int .i64 0) rfl;have g2 := free_top HJ7.out.z8 2;have o3 := cells_top HJ7.out.z9 3 (.int .u64 0) rfl;have r3 := cells_top HJ7.out.z8 3 (.int .u64 0) rfl;have g3 := free_top HJ7.out.z8 3
                              have HZ := Jn.ret HJ7.out
                              (try simp only []); repeat (first | go_values | go_skip | go_guarded | go_step)
                              try simp only [Exit.inBlock, Exit.then]
                              refine @ret_ct ?P2538 ?fn2538 ?R2538 ?a2538 ?w2538 ?ty2538 (w.heap.size + 1 + 1) ?t2538 ?cs2538 ?fr2538 ?d2538 ?v2538 ?g1x2538 ?g2x2538 ?g3x2538 ?g4x2538 ?g5x2538 ?g6x2538 ?g7x2538 ?g8x2538 ?g9x2538
                              (case g1x2538 => exact rfl);(case g2x2538 => exact rfl);(case g3x2538 => exact rfl);(case g4x2538 => exact HZ.1);(case g5x2538 => exact Try.underlying27);(case g6x2538 => exact rfl);(case g7x2538 => kernel_rfl);(case g8x2538 => exact rfl)
                              exact ⟨10, [], 0, 0, 0, _, rfl, HR.out, Kd.R_nil _ _ _ _ _, HZ.2.2⟩
                          · have t2 : (esq != 0) = true := by simpa using h2
                            by_cases k2 : esq < sq
                            · have u2 : decide (esq < sq) = true := decide_eq_true k2
                              have HR := Kp.mk (HBad.out (fun hg => by have h9 := hg.2.2.1; unfold outS at h9; rw [if_pos (by omega)] at h9; omega))
                              clear h2 k2 HBad HGd
                              have PK := Kp.mk (And.intro HR.out (And.intro HJ.out (And.intro HZ6.out (And.intro HR6.out HSz.out))))
                              (try clear HR);(try clear HJ);(try clear HZ6);(try clear HR6);(try clear HSz);(try clear H);(try clear H1);(try clear H2);(try clear HBy);(try clear HBy1);(try clear HVt);(try clear HEt);(try clear HN);(try clear HLF);(try clear HAll);(try clear HLo);(try clear HNt);(try clear HSR);(try clear HIs);(try clear HRow);(try clear HLe);(try clear HOut);(try clear HLO);(try clear HByO);(try clear HO);(try clear Hm5);(try clear Ha');(try clear Hb');(try clear Hs');(try clear G1);(try clear G2);(try clear G3);(try clear HBad);(try clear HGd);(try clear hn);(try clear hn1);(try clear hn2);(try clear hm);(try clear hm1);(try clear hm2);(try clear hsq);(try clear hesq);(try clear hc2);(try clear w1');(try clear w2');(try clear w5');(try clear w3');(try clear w4');(try clear bl);(try clear bd);(try clear bd2);(try clear bx);(try clear Hbb);(try clear hab);(try clear hbr);(try clear HL);(try clear HL1);(try clear HL2);(try clear hk);(try clear hd0);(try clear e1)
                              refine wp_region_below_seq ?_
                              repeat (first | go_big_quiet_step (fail) | quiet_step (fail))
                              refine wpQuiet_nil ?_
                              rintro _ ⟨pq, rfl⟩
                              have HR := Kp.mk PK.out.1
                              have HJ7 := Kp.mk (PK.out.2.1.below pq.h)
                              have HZ7 := Kp.mk ((pq.h.block _ (lt_of_block PK.out.2.2.1)).trans PK.out.2.2.1)
                              have HR7 := Kp.mk (Kd.R_below PK.out.2.2.2.1 pq.h)
                              have HSz := Kp.mk PK.out.2.2.2.2
                              clear Bv1 Bv2 Bv3 Be2 Be3 Be4 Bq0 Bq1 Bq2 Bq3 PK
                              have o0 := cells_top HJ7.out.z9 0 (.slice none 0 0) rfl;have r0 := cells_top HJ7.out.z8 0 (.slice none 0 0) rfl;have g0 := free_top HJ7.out.z8 0;have o1 := cells_top HJ7.out.z9 1 (.int .i64 0) rfl;have r1 := cells_top HJ7.out.z8 1 (.int .i64 0) rfl;have g1 := free_top HJ7.out.z8 1;have o2 := cells_top HJ7.out.z9 2 (.int .i64 0) rfl;have r2 := cells_top HJ7.out.z8 2 (.int .i64 0) rfl;have g2 := free_top HJ7.out.z8 2;have o3 := cells_top HJ7.out.z9 3 (.int .u64 0) rfl;have r3 := cells_top HJ7.out.z8 3 (.int .u64 0) rfl;have g3 := free_top HJ7.out.z8 3
                              have HZ := Jn.ret HJ7.out
                              (try simp only []); repeat (first | go_values | go_skip | go_guarded | go_step)
                              try simp only [Exit.inBlock, Exit.then]
                              refine @ret_ct ?P2640 ?fn2640 ?R2640 ?a2640 ?w2640 ?ty2640 (w.heap.size + 1 + 1) ?t2640 ?cs2640 ?fr2640 ?d2640 ?v2640 ?g1x2640 ?g2x2640 ?g3x2640 ?g4x2640 ?g5x2640 ?g6x2640 ?g7x2640 ?g8x2640 ?g9x2640
                              (case g1x2640 => exact rfl);(case g2x2640 => exact rfl);(case g3x2640 => exact rfl);(case g4x2640 => exact HZ.1);(case g5x2640 => exact Try.underlying27);(case g6x2640 => exact rfl);(case g7x2640 => kernel_rfl);(case g8x2640 => exact rfl)
                              exact ⟨10, [], 0, 0, 0, _, rfl, HR.out, Kd.R_nil _ _ _ _ _, HZ.2.2⟩
                            · have u2 : decide (esq < sq) = false := decide_eq_false k2
                              have G3 : Kp (sq ≤ outS sq esq) := ⟨by unfold outS; rw [if_pos (by omega)]; omega⟩
                              clear h2 k2
                              by_cases hvo : VOk O a' b' s'
                              · have HRV : Kp (∀ W, Below (w5.alloc (.cells #[.slice A5 m5 c5, .int .i64 a', .int .i64 b', .int .u64 s'] 27)).heap.size (w5.alloc (.cells #[.slice A5 m5 c5, .int .i64 a', .int .i64 b', .int .u64 s'] 27)) W → Calls Try.prog 17 #[.agg #[.slice A5 m5 c5, .int .i64 a', .int .i64 b', .int .u64 s']] W (fun e w' => e = .returned (.bool true) ∧ Below W.heap.size W w')) := ⟨fun W hW => by
                                    have hcc := ref_version (c := c5) a' b' s' (show kRn.C W A5 O.length O from Kd.C_below (Kd.R_reads' HR6.out).2.2 hW) HByO.out
                                    rw [← Hm5.out] at hcc
                                    exact hcc.mono (fun e w' ⟨b, he, hb, hB⟩ => ⟨by rw [he, hb.2 hvo], hB⟩)⟩
                                have HR := Kp.mk (HGd.out ⟨G1.out, G2.out, G3.out, by rw [HO.out, Ha'.out, Hb'.out, Hs'.out] at hvo; exact hvo⟩)
                                clear hvo HBad HGd
                                have PK := Kp.mk (And.intro HR.out (And.intro HJ.out (And.intro HZ6.out (And.intro HR6.out HSz.out))))
                                (try clear HR);(try clear HJ);(try clear HZ6);(try clear HR6);(try clear HSz);(try clear H);(try clear H1);(try clear H2);(try clear HBy);(try clear HBy1);(try clear HVt);(try clear HEt);(try clear HN);(try clear HLF);(try clear HAll);(try clear HLo);(try clear HNt);(try clear HSR);(try clear HIs);(try clear HRow);(try clear HLe);(try clear HOut);(try clear HLO);(try clear HByO);(try clear HO);(try clear Hm5);(try clear Ha');(try clear Hb');(try clear Hs');(try clear G1);(try clear G2);(try clear G3);(try clear HBad);(try clear HGd);(try clear hn);(try clear hn1);(try clear hn2);(try clear hm);(try clear hm1);(try clear hm2);(try clear hsq);(try clear hesq);(try clear hc2);(try clear w1');(try clear w2');(try clear w5');(try clear w3');(try clear w4');(try clear bl);(try clear bd);(try clear bd2);(try clear bx);(try clear Hbb);(try clear hab);(try clear hbr);(try clear HL);(try clear HL1);(try clear HL2);(try clear hk);(try clear hd0);(try clear e1)
                                refine wp_region_below_seq ?_
                                repeat (first | go_big_quiet_step ((go_at_call 17; exact calls_blw (HRV.out _ (Blw.h _)))) | quiet_step ((go_at_call 17; exact calls_blw (HRV.out _ (Blw.h _)))))
                                refine wpQuiet_nil ?_
                                rintro _ ⟨pq, rfl⟩
                                have HR := Kp.mk PK.out.1
                                have HJ7 := Kp.mk (PK.out.2.1.below pq.h)
                                have HZ7 := Kp.mk ((pq.h.block _ (lt_of_block PK.out.2.2.1)).trans PK.out.2.2.1)
                                have HR7 := Kp.mk (Kd.R_below PK.out.2.2.2.1 pq.h)
                                have HSz := Kp.mk PK.out.2.2.2.2
                                clear Bv1 Bv2 Bv3 Be2 Be3 Be4 Bq0 Bq1 Bq2 Bq3 PK
                                clear HRV
                                have q0 := cells_top HZ7.out 0 (.slice A5 m5 c5) rfl;have q1 := cells_top HZ7.out 1 (.int .i64 a') rfl;have q2 := cells_top HZ7.out 2 (.int .i64 b') rfl;have q3 := cells_top HZ7.out 3 (.int .u64 s') rfl;have r0 := cells_top HJ7.out.z8 0 (.slice none 0 0) rfl;have g0 := free_top HJ7.out.z8 0;have r1 := cells_top HJ7.out.z8 1 (.int .i64 0) rfl;have g1 := free_top HJ7.out.z8 1;have r2 := cells_top HJ7.out.z8 2 (.int .i64 0) rfl;have g2 := free_top HJ7.out.z8 2;have r3 := cells_top HJ7.out.z8 3 (.int .u64 0) rfl;have g3 := free_top HJ7.out.z8 3
                                have HZ := laid4 HJ7.out.z8 (.slice A5 m5 c5) (.int .i64 a') (.int .i64 b') (.int .u64 s')
                                have HP := Kp.mk (put_R (Kd.R_lower HR7.out HSz.out) HJ7.out.z8 (.slice A5 m5 c5) (.int .i64 a') (.int .i64 b') (.int .u64 s'))
                                (try simp only []); repeat (first | go_values | go_skip | go_guarded | go_step)
                                try simp only [Exit.inBlock, Exit.then]
                                refine @ret_ct ?P2749 ?fn2749 ?R2749 ?a2749 ?w2749 ?ty2749 (w.heap.size + 1 + 1) ?t2749 ?cs2749 ?fr2749 ?d2749 ?v2749 ?g1x2749 ?g2x2749 ?g3x2749 ?g4x2749 ?g5x2749 ?g6x2749 ?g7x2749 ?g8x2749 ?g9x2749
                                (case g1x2749 => exact rfl);(case g2x2749 => exact rfl);(case g3x2749 => exact rfl);(case g4x2749 => exact HZ);(case g5x2749 => exact Try.underlying27);(case g6x2749 => exact rfl);(case g7x2749 => kernel_rfl);(case g8x2749 => exact rfl)
                                have ub : w.heap.size ≤ w.heap.size + 1 + 1 := Nat.le_add_right _ 2
                                exact ⟨0, O, a', b', s', _, rfl, HR.out, HP.out, (((HJ7.out.b.setCell ub _).setCell ub _).setCell ub _).setCell ub _⟩
                              · have HRV : Kp (∀ W, Below (w5.alloc (.cells #[.slice A5 m5 c5, .int .i64 a', .int .i64 b', .int .u64 s'] 27)).heap.size (w5.alloc (.cells #[.slice A5 m5 c5, .int .i64 a', .int .i64 b', .int .u64 s'] 27)) W → Calls Try.prog 17 #[.agg #[.slice A5 m5 c5, .int .i64 a', .int .i64 b', .int .u64 s']] W (fun e w' => e = .returned (.bool false) ∧ Below W.heap.size W w')) := ⟨fun W hW => by
                                    have hcc := ref_version (c := c5) a' b' s' (show kRn.C W A5 O.length O from Kd.C_below (Kd.R_reads' HR6.out).2.2 hW) HByO.out
                                    rw [← Hm5.out] at hcc
                                    exact hcc.mono (fun e w' ⟨b, he, hb, hB⟩ => ⟨by rw [he]; cases b with | false => rfl | true => exact absurd (hb.1 rfl) hvo, hB⟩)⟩
                                have HR := Kp.mk (HBad.out (fun hg => by have h9 := hg.2.2.2; rw [← HO.out, ← Ha'.out, ← Hb'.out, ← Hs'.out] at h9; exact hvo h9))
                                clear hvo HBad HGd
                                have PK := Kp.mk (And.intro HR.out (And.intro HJ.out (And.intro HZ6.out (And.intro HR6.out HSz.out))))
                                (try clear HR);(try clear HJ);(try clear HZ6);(try clear HR6);(try clear HSz);(try clear H);(try clear H1);(try clear H2);(try clear HBy);(try clear HBy1);(try clear HVt);(try clear HEt);(try clear HN);(try clear HLF);(try clear HAll);(try clear HLo);(try clear HNt);(try clear HSR);(try clear HIs);(try clear HRow);(try clear HLe);(try clear HOut);(try clear HLO);(try clear HByO);(try clear HO);(try clear Hm5);(try clear Ha');(try clear Hb');(try clear Hs');(try clear G1);(try clear G2);(try clear G3);(try clear HBad);(try clear HGd);(try clear hn);(try clear hn1);(try clear hn2);(try clear hm);(try clear hm1);(try clear hm2);(try clear hsq);(try clear hesq);(try clear hc2);(try clear w1');(try clear w2');(try clear w5');(try clear w3');(try clear w4');(try clear bl);(try clear bd);(try clear bd2);(try clear bx);(try clear Hbb);(try clear hab);(try clear hbr);(try clear HL);(try clear HL1);(try clear HL2);(try clear hk);(try clear hd0);(try clear e1)
                                refine wp_region_below_seq ?_
                                repeat (first | go_big_quiet_step ((go_at_call 17; exact calls_blw (HRV.out _ (Blw.h _)))) | quiet_step ((go_at_call 17; exact calls_blw (HRV.out _ (Blw.h _)))))
                                refine wpQuiet_nil ?_
                                rintro _ ⟨pq, rfl⟩
                                have HR := Kp.mk PK.out.1
                                have HJ7 := Kp.mk (PK.out.2.1.below pq.h)
                                have HZ7 := Kp.mk ((pq.h.block _ (lt_of_block PK.out.2.2.1)).trans PK.out.2.2.1)
                                have HR7 := Kp.mk (Kd.R_below PK.out.2.2.2.1 pq.h)
                                have HSz := Kp.mk PK.out.2.2.2.2
                                clear Bv1 Bv2 Bv3 Be2 Be3 Be4 Bq0 Bq1 Bq2 Bq3 PK
                                clear HRV
                                have o0 := cells_top HJ7.out.z9 0 (.slice none 0 0) rfl;have r0 := cells_top HJ7.out.z8 0 (.slice none 0 0) rfl;have g0 := free_top HJ7.out.z8 0;have o1 := cells_top HJ7.out.z9 1 (.int .i64 0) rfl;have r1 := cells_top HJ7.out.z8 1 (.int .i64 0) rfl;have g1 := free_top HJ7.out.z8 1;have o2 := cells_top HJ7.out.z9 2 (.int .i64 0) rfl;have r2 := cells_top HJ7.out.z8 2 (.int .i64 0) rfl;have g2 := free_top HJ7.out.z8 2;have o3 := cells_top HJ7.out.z9 3 (.int .u64 0) rfl;have r3 := cells_top HJ7.out.z8 3 (.int .u64 0) rfl;have g3 := free_top HJ7.out.z8 3
                                have HZ := Jn.ret HJ7.out
                                (try simp only []); repeat (first | go_values | go_skip | go_guarded | go_step)
                                try simp only [Exit.inBlock, Exit.then]
                                refine @ret_ct ?P2854 ?fn2854 ?R2854 ?a2854 ?w2854 ?ty2854 (w.heap.size + 1 + 1) ?t2854 ?cs2854 ?fr2854 ?d2854 ?v2854 ?g1x2854 ?g2x2854 ?g3x2854 ?g4x2854 ?g5x2854 ?g6x2854 ?g7x2854 ?g8x2854 ?g9x2854
                                (case g1x2854 => exact rfl);(case g2x2854 => exact rfl);(case g3x2854 => exact rfl);(case g4x2854 => exact HZ.1);(case g5x2854 => exact Try.underlying27);(case g6x2854 => exact rfl);(case g7x2854 => kernel_rfl);(case g8x2854 => exact rfl)
                                exact ⟨10, [], 0, 0, 0, _, rfl, HR.out, Kd.R_nil _ _ _ _ _, HZ.2.2⟩
              · obtain ⟨a, b, rfl, rfl, hab, hbr, hat⟩ := HLo.out (by omega)
                have HIs := Kp.mk hat
                have Hrw := Kp.mk (lh_row HVt.out.2.1 HEt.out.2.2.2.1 HLF.out hab hbr (by have := HL2.out; omega))
                rw [HL.out] at hbr
                have bd : ((n2 : Int) == 0) = false := by simpa using hd0
                have bd2 : (n2 == 0) = false := by simpa using hd0
                have w3' : IntKind.i64.wrap ((b : Int) - (a : Int)) = (b : Int) - (a : Int) := IntWalk.i64_in _ ⟨by omega, by omega⟩
                have w4' : IntKind.i64.wrap ((b : Int) - (a : Int) + 1) = (b : Int) - (a : Int) + 1 := IntWalk.i64_in _ ⟨by omega, by omega⟩
                clear hat
                by_cases hlong : (1000 : Int) < (n : Int) - (n2 : Int) + (n1 : Int)
                · have bl : decide ((1000 : Int) < (n : Int) - (n2 : Int) + (n1 : Int)) = true := decide_eq_true hlong
                  have HR : Kp (ApplyR rs nx lg sq add drop enx elg esq 3 [] 0 0 0) := ⟨.inr ⟨⟨HVt.out, HEt.out⟩, .inr ⟨HAll.out, .inr ⟨HNt.out, .inl ⟨rfl, by rw [HL.out, HL1.out, HL2.out]; omega, rfl, rfl, rfl, rfl⟩⟩⟩⟩⟩
                  clear hlong
                  have o0 := cells_top HJ.out.z9 0 (.slice none 0 0) rfl;have r0 := cells_top HJ.out.z8 0 (.slice none 0 0) rfl;have g0 := free_top HJ.out.z8 0;have o1 := cells_top HJ.out.z9 1 (.int .i64 0) rfl;have r1 := cells_top HJ.out.z8 1 (.int .i64 0) rfl;have g1 := free_top HJ.out.z8 1;have o2 := cells_top HJ.out.z9 2 (.int .i64 0) rfl;have r2 := cells_top HJ.out.z8 2 (.int .i64 0) rfl;have g2 := free_top HJ.out.z8 2;have o3 := cells_top HJ.out.z9 3 (.int .u64 0) rfl;have r3 := cells_top HJ.out.z8 3 (.int .u64 0) rfl;have g3 := free_top HJ.out.z8 3
                  have HZ := Jn.ret HJ.out
                  (try simp only []); repeat (first | go_values | go_skip | go_guarded | go_step)
                  try simp only [Exit.inBlock, Exit.then]
                  refine @ret_ct ?P2892 ?fn2892 ?R2892 ?a2892 ?w2892 ?ty2892 (w.heap.size + 1 + 1) ?t2892 ?cs2892 ?fr2892 ?d2892 ?v2892 ?g1x2892 ?g2x2892 ?g3x2892 ?g4x2892 ?g5x2892 ?g6x2892 ?g7x2892 ?g8x2892 ?g9x2892
                  (case g1x2892 => exact rfl);(case g2x2892 => exact rfl);(case g3x2892 => exact rfl);(case g4x2892 => exact HZ.1);(case g5x2892 => exact Try.underlying27);(case g6x2892 => exact rfl);(case g7x2892 => kernel_rfl);(case g8x2892 => exact rfl)
                  exact ⟨3, [], 0, 0, 0, _, rfl, HR.out, Kd.R_nil _ _ _ _ _, HZ.2.2⟩
                · have bl : decide ((1000 : Int) < (n : Int) - (n2 : Int) + (n1 : Int)) = false := decide_eq_false hlong
                  have HLe : Kp ((rs.length : Int) - drop.length + add.length ≤ 1000) := ⟨by rw [HL.out, HL1.out, HL2.out]; omega⟩
                  clear hlong
                  by_cases hrow : b + 1 = a + n2
                  · have HRow : Kp (RowAt rs drop a) := ⟨Hrw.out.1 (by rw [HL2.out]; exact hrow)⟩
                    have bx : (((b : Int) - (a : Int) + 1) != (n2 : Int)) = false := by rw [bne_eq_false_iff_eq]; omega
                    have hbb : a + n2 = b + 1 := hrow.symm
                    clear hrow Hrw
                    have Hbb := Kp.mk hbb
                    clear hbb
                    have HJn := Kp.mk (by have := ref_join (A2 := A2) (n2 := n2) (c := c) (c1 := c1) (c2 := c2) nx lg sq enx elg esq a (b + 1) (Kd.C_below H.out HJ.out.b) (Kd.C_below H1.out HJ.out.b) (by omega) (by omega) hn hn1 HSR.out.1 HSR.out.2 hesq; rewrite [show ((b + 1 : Nat) : Int) - 1 = (b : Int) by omega] at this; exact this)
                    have v0 := cells_top HJ.out.z4 0 (.slice A n c) rfl;have v1 := cells_top HJ.out.z4 1 (.int .i64 nx) rfl;have v2 := cells_top HJ.out.z4 2 (.int .i64 lg) rfl;have v3 := cells_top HJ.out.z4 3 (.int .u64 sq) rfl;have e0 := cells_top HJ.out.z5 0 (.slice A1 n1 c1) rfl;have e1 := cells_top HJ.out.z5 1 (.slice A2 n2 c2) rfl;have e2 := cells_top HJ.out.z5 2 (.int .i64 enx) rfl;have e3 := cells_top HJ.out.z5 3 (.int .i64 elg) rfl;have e4 := cells_top HJ.out.z5 4 (.int .u64 esq) rfl
                    go_wp2_with fail
                    refine HJn.out.mono ?_
                    clear HJn v0 v1 v2 v3 e0 e1 e2 e3 e4
                    rintro e w5 ⟨v5, rfl, hR5, hb5⟩
                    have HOut : Kp (outL rs add drop a = rs.take a ++ add ++ rs.drop (b + 1)) := ⟨by unfold outL; rw [HL2.out]; rw [Hbb.out]⟩
                    rw [← HOut.out] at hR5
                    have HLO : Kp ((outL rs add drop a).length ≤ 1200) := ⟨by rw [HOut.out, List.length_append, List.length_append, List.length_take, List.length_drop]; have := HL.out; have := HL1.out; omega⟩
                    have HByO : Kp (BytRs (outL rs add drop a)) := ⟨by rw [HOut.out]; exact byt_out HBy.out HBy1.out _ _⟩
                    obtain ⟨A5, c5, rfl⟩ := Kd.R_slice hR5
                    obtain ⟨O, hO⟩ : ∃ O, O = outL rs add drop a := ⟨_, rfl⟩
                    rw [← hO] at hR5 HLO HByO
                    obtain ⟨m5, hm5⟩ : ∃ m5, m5 = O.length := ⟨_, rfl⟩
                    rw [← hO, ← hm5]
                    rw [← hm5] at hR5 HLO
                    obtain ⟨a', ha'⟩ : ∃ a', a' = laterI nx enx := ⟨_, rfl⟩
                    obtain ⟨b', hb'⟩ : ∃ b', b' = laterI lg elg := ⟨_, rfl⟩
                    obtain ⟨s', hs'⟩ : ∃ s', s' = outS sq esq := ⟨_, rfl⟩
                    rw [← ha', ← hb', ← hs']
                    have HO := Kp.mk hO
                    have Hm5 := Kp.mk hm5
                    have Ha' := Kp.mk ha'
                    have Hb' := Kp.mk hb'
                    have Hs' := Kp.mk hs'
                    clear hO hm5 ha' hb' hs'
                    have HJ6 := Kp.mk ((HJ.out.below hb5).below (alloc_below _ (.cells #[.slice A5 m5 c5, .int .i64 a', .int .i64 b', .int .u64 s'] 27)))
                    have HR6 := Kp.mk (Kd.R_alloc hR5 (.cells #[.slice A5 m5 c5, .int .i64 a', .int .i64 b', .int .u64 s'] 27))
                    have HSz := Kp.mk HJ.out.b.size
                    have HZ6 := Kp.mk (heap_alloc_new w5 (.cells #[.slice A5 m5 c5, .int .i64 a', .int .i64 b', .int .u64 s'] 27))
                    clear hR5 hb5 HJ
                    have HJ := HJ6
                    clear HJ6
                    have v1 := cells_top HJ.out.z4 1 (.int .i64 nx) rfl;have v2 := cells_top HJ.out.z4 2 (.int .i64 lg) rfl;have v3 := cells_top HJ.out.z4 3 (.int .u64 sq) rfl;have e2 := cells_top HJ.out.z5 2 (.int .i64 enx) rfl;have e3 := cells_top HJ.out.z5 3 (.int .i64 elg) rfl;have e4 := cells_top HJ.out.z5 4 (.int .u64 esq) rfl;have q0 := cells_top HZ6.out 0 (.slice A5 m5 c5) rfl;have q1 := cells_top HZ6.out 1 (.int .i64 a') rfl;have q2 := cells_top HZ6.out 2 (.int .i64 b') rfl;have q3 := cells_top HZ6.out 3 (.int .u64 s') rfl
                    have HBad : Kp (¬ GoodAt rs nx lg sq add drop enx elg esq a → ApplyR rs nx lg sq add drop enx elg esq 10 [] 0 0 0) := ⟨fun hg => .inr ⟨⟨HVt.out, HEt.out⟩, .inr ⟨HAll.out, .inr ⟨HNt.out, .inr ⟨HLe.out, a, HIs.out, .inr ⟨HRow.out, .inl ⟨rfl, hg, rfl, rfl, rfl, rfl⟩⟩⟩⟩⟩⟩⟩
                    have HGd : Kp (GoodAt rs nx lg sq add drop enx elg esq a → ApplyR rs nx lg sq add drop enx elg esq 0 O a' b' s') := ⟨fun hg => .inr ⟨⟨HVt.out, HEt.out⟩, .inr ⟨HAll.out, .inr ⟨HNt.out, .inr ⟨HLe.out, a, HIs.out, .inr ⟨HRow.out, .inr ⟨rfl, hg, HO.out, Ha'.out, Hb'.out, Hs'.out⟩⟩⟩⟩⟩⟩⟩
                    clear q0 q1 q2 q3
                    have Bv1 := blw_cell v1;have Bv2 := blw_cell v2;have Bv3 := blw_cell v3;have Be2 := blw_cell e2;have Be3 := blw_cell e3;have Be4 := blw_cell e4
                    clear v1 v2 v3 e2 e3 e4
                    have Bq0 := blw_cell (cells_top HZ6.out 0 (.slice A5 m5 c5) rfl);have Bq1 := blw_cell (cells_top HZ6.out 1 (.int .i64 a') rfl);have Bq2 := blw_cell (cells_top HZ6.out 2 (.int .i64 b') rfl);have Bq3 := blw_cell (cells_top HZ6.out 3 (.int .u64 s') rfl)
                    go_upto_region 29 with (fail)
                    by_cases h0 : enx = 0
                    · have t0 : (enx != 0) = false := by simpa using h0
                      have G1 : Kp (laterB nx enx = true) := ⟨by simp [laterB, h0]⟩
                      clear h0
                      by_cases h1 : elg = 0
                      · have t1 : (elg != 0) = false := by simpa using h1
                        have G2 : Kp (laterB lg elg = true) := ⟨by simp [laterB, h1]⟩
                        clear h1
                        by_cases h2 : esq = 0
                        · have t2 : (esq != 0) = false := by simpa using h2
                          have G3 : Kp (sq ≤ outS sq esq) := ⟨by unfold outS; rw [if_neg (by omega)]; exact Int.le_refl _⟩
                          clear h2
                          by_cases hvo : VOk O a' b' s'
                          · have HRV : Kp (∀ W, Below (w5.alloc (.cells #[.slice A5 m5 c5, .int .i64 a', .int .i64 b', .int .u64 s'] 27)).heap.size (w5.alloc (.cells #[.slice A5 m5 c5, .int .i64 a', .int .i64 b', .int .u64 s'] 27)) W → Calls Try.prog 17 #[.agg #[.slice A5 m5 c5, .int .i64 a', .int .i64 b', .int .u64 s']] W (fun e w' => e = .returned (.bool true) ∧ Below W.heap.size W w')) := ⟨fun W hW => by
                                have hcc := ref_version (c := c5) a' b' s' (show kRn.C W A5 O.length O from Kd.C_below (Kd.R_reads' HR6.out).2.2 hW) HByO.out
                                rw [← Hm5.out] at hcc
                                exact hcc.mono (fun e w' ⟨b, he, hb, hB⟩ => ⟨by rw [he, hb.2 hvo], hB⟩)⟩
                            have HR := Kp.mk (HGd.out ⟨G1.out, G2.out, G3.out, by rw [HO.out, Ha'.out, Hb'.out, Hs'.out] at hvo; exact hvo⟩)
                            clear hvo HBad HGd
                            have PK := Kp.mk (And.intro HR.out (And.intro HJ.out (And.intro HZ6.out (And.intro HR6.out HSz.out))))
                            (try clear HR);(try clear HJ);(try clear HZ6);(try clear HR6);(try clear HSz);(try clear H);(try clear H1);(try clear H2);(try clear HBy);(try clear HBy1);(try clear HVt);(try clear HEt);(try clear HN);(try clear HLF);(try clear HAll);(try clear HLo);(try clear HNt);(try clear HSR);(try clear HIs);(try clear HRow);(try clear HLe);(try clear HOut);(try clear HLO);(try clear HByO);(try clear HO);(try clear Hm5);(try clear Ha');(try clear Hb');(try clear Hs');(try clear G1);(try clear G2);(try clear G3);(try clear HBad);(try clear HGd);(try clear hn);(try clear hn1);(try clear hn2);(try clear hm);(try clear hm1);(try clear hm2);(try clear hsq);(try clear hesq);(try clear hc2);(try clear w1');(try clear w2');(try clear w5');(try clear w3');(try clear w4');(try clear bl);(try clear bd);(try clear bd2);(try clear bx);(try clear Hbb);(try clear hab);(try clear hbr);(try clear HL);(try clear HL1);(try clear HL2);(try clear hk);(try clear hd0);(try clear e1)
                            refine wp_region_below_seq ?_
                            repeat (first | go_big_quiet_step ((go_at_call 17; exact calls_blw (HRV.out _ (Blw.h _)))) | quiet_step ((go_at_call 17; exact calls_blw (HRV.out _ (Blw.h _)))))
                            refine wpQuiet_nil ?_
                            rintro _ ⟨pq, rfl⟩
                            have HR := Kp.mk PK.out.1
                            have HJ7 := Kp.mk (PK.out.2.1.below pq.h)
                            have HZ7 := Kp.mk ((pq.h.block _ (lt_of_block PK.out.2.2.1)).trans PK.out.2.2.1)
                            have HR7 := Kp.mk (Kd.R_below PK.out.2.2.2.1 pq.h)
                            have HSz := Kp.mk PK.out.2.2.2.2
                            clear Bv1 Bv2 Bv3 Be2 Be3 Be4 Bq0 Bq1 Bq2 Bq3 PK
                            clear HRV
                            have q0 := cells_top HZ7.out 0 (.slice A5 m5 c5) rfl;have q1 := cells_top HZ7.out 1 (.int .i64 a') rfl;have q2 := cells_top HZ7.out 2 (.int .i64 b') rfl;have q3 := cells_top HZ7.out 3 (.int .u64 s') rfl;have r0 := cells_top HJ7.out.z8 0 (.slice none 0 0) rfl;have g0 := free_top HJ7.out.z8 0;have r1 := cells_top HJ7.out.z8 1 (.int .i64 0) rfl;have g1 := free_top HJ7.out.z8 1;have r2 := cells_top HJ7.out.z8 2 (.int .i64 0) rfl;have g2 := free_top HJ7.out.z8 2;have r3 := cells_top HJ7.out.z8 3 (.int .u64 0) rfl;have g3 := free_top HJ7.out.z8 3
                            have HZ := laid4 HJ7.out.z8 (.slice A5 m5 c5) (.int .i64 a') (.int .i64 b') (.int .u64 s')
                            have HP := Kp.mk (put_R (Kd.R_lower HR7.out HSz.out) HJ7.out.z8 (.slice A5 m5 c5) (.int .i64 a') (.int .i64 b') (.int .u64 s'))
                            (try simp only []); repeat (first | go_values | go_skip | go_guarded | go_step)
                            try simp only [Exit.inBlock, Exit.then]
                            refine @ret_ct ?P3086 ?fn3086 ?R3086 ?a3086 ?w3086 ?ty3086 (w.heap.size + 1 + 1) ?t3086 ?cs3086 ?fr3086 ?d3086 ?v3086 ?g1x3086 ?g2x3086 ?g3x3086 ?g4x3086 ?g5x3086 ?g6x3086 ?g7x3086 ?g8x3086 ?g9x3086
                            (case g1x3086 => exact rfl);(case g2x3086 => exact rfl);(case g3x3086 => exact rfl);(case g4x3086 => exact HZ);(case g5x3086 => exact Try.underlying27);(case g6x3086 => exact rfl);(case g7x3086 => kernel_rfl);(case g8x3086 => exact rfl)
                            have ub : w.heap.size ≤ w.heap.size + 1 + 1 := Nat.le_add_right _ 2
                            exact ⟨0, O, a', b', s', _, rfl, HR.out, HP.out, (((HJ7.out.b.setCell ub _).setCell ub _).setCell ub _).setCell ub _⟩
                          · have HRV : Kp (∀ W, Below (w5.alloc (.cells #[.slice A5 m5 c5, .int .i64 a', .int .i64 b', .int .u64 s'] 27)).heap.size (w5.alloc (.cells #[.slice A5 m5 c5, .int .i64 a', .int .i64 b', .int .u64 s'] 27)) W → Calls Try.prog 17 #[.agg #[.slice A5 m5 c5, .int .i64 a', .int .i64 b', .int .u64 s']] W (fun e w' => e = .returned (.bool false) ∧ Below W.heap.size W w')) := ⟨fun W hW => by
                                have hcc := ref_version (c := c5) a' b' s' (show kRn.C W A5 O.length O from Kd.C_below (Kd.R_reads' HR6.out).2.2 hW) HByO.out
                                rw [← Hm5.out] at hcc
                                exact hcc.mono (fun e w' ⟨b, he, hb, hB⟩ => ⟨by rw [he]; cases b with | false => rfl | true => exact absurd (hb.1 rfl) hvo, hB⟩)⟩
                            have HR := Kp.mk (HBad.out (fun hg => by have h9 := hg.2.2.2; rw [← HO.out, ← Ha'.out, ← Hb'.out, ← Hs'.out] at h9; exact hvo h9))
                            clear hvo HBad HGd
                            have PK := Kp.mk (And.intro HR.out (And.intro HJ.out (And.intro HZ6.out (And.intro HR6.out HSz.out))))
                            (try clear HR);(try clear HJ);(try clear HZ6);(try clear HR6);(try clear HSz);(try clear H);(try clear H1);(try clear H2);(try clear HBy);(try clear HBy1);(try clear HVt);(try clear HEt);(try clear HN);(try clear HLF);(try clear HAll);(try clear HLo);(try clear HNt);(try clear HSR);(try clear HIs);(try clear HRow);(try clear HLe);(try clear HOut);(try clear HLO);(try clear HByO);(try clear HO);(try clear Hm5);(try clear Ha');(try clear Hb');(try clear Hs');(try clear G1);(try clear G2);(try clear G3);(try clear HBad);(try clear HGd);(try clear hn);(try clear hn1);(try clear hn2);(try clear hm);(try clear hm1);(try clear hm2);(try clear hsq);(try clear hesq);(try clear hc2);(try clear w1');(try clear w2');(try clear w5');(try clear w3');(try clear w4');(try clear bl);(try clear bd);(try clear bd2);(try clear bx);(try clear Hbb);(try clear hab);(try clear hbr);(try clear HL);(try clear HL1);(try clear HL2);(try clear hk);(try clear hd0);(try clear e1)
                            refine wp_region_below_seq ?_
                            repeat (first | go_big_quiet_step ((go_at_call 17; exact calls_blw (HRV.out _ (Blw.h _)))) | quiet_step ((go_at_call 17; exact calls_blw (HRV.out _ (Blw.h _)))))
                            refine wpQuiet_nil ?_
                            rintro _ ⟨pq, rfl⟩
                            have HR := Kp.mk PK.out.1
                            have HJ7 := Kp.mk (PK.out.2.1.below pq.h)
                            have HZ7 := Kp.mk ((pq.h.block _ (lt_of_block PK.out.2.2.1)).trans PK.out.2.2.1)
                            have HR7 := Kp.mk (Kd.R_below PK.out.2.2.2.1 pq.h)
                            have HSz := Kp.mk PK.out.2.2.2.2
                            clear Bv1 Bv2 Bv3 Be2 Be3 Be4 Bq0 Bq1 Bq2 Bq3 PK
                            clear HRV
                            have o0 := cells_top HJ7.out.z9 0 (.slice none 0 0) rfl;have r0 := cells_top HJ7.out.z8 0 (.slice none 0 0) rfl;have g0 := free_top HJ7.out.z8 0;have o1 := cells_top HJ7.out.z9 1 (.int .i64 0) rfl;have r1 := cells_top HJ7.out.z8 1 (.int .i64 0) rfl;have g1 := free_top HJ7.out.z8 1;have o2 := cells_top HJ7.out.z9 2 (.int .i64 0) rfl;have r2 := cells_top HJ7.out.z8 2 (.int .i64 0) rfl;have g2 := free_top HJ7.out.z8 2;have o3 := cells_top HJ7.out.z9 3 (.int .u64 0) rfl;have r3 := cells_top HJ7.out.z8 3 (.int .u64 0) rfl;have g3 := free_top HJ7.out.z8 3
                            have HZ := Jn.ret HJ7.out
                            (try simp only []); repeat (first | go_values | go_skip | go_guarded | go_step)
                            try simp only [Exit.inBlock, Exit.then]
                            refine @ret_ct ?P3191 ?fn3191 ?R3191 ?a3191 ?w3191 ?ty3191 (w.heap.size + 1 + 1) ?t3191 ?cs3191 ?fr3191 ?d3191 ?v3191 ?g1x3191 ?g2x3191 ?g3x3191 ?g4x3191 ?g5x3191 ?g6x3191 ?g7x3191 ?g8x3191 ?g9x3191
                            (case g1x3191 => exact rfl);(case g2x3191 => exact rfl);(case g3x3191 => exact rfl);(case g4x3191 => exact HZ.1);(case g5x3191 => exact Try.underlying27);(case g6x3191 => exact rfl);(case g7x3191 => kernel_rfl);(case g8x3191 => exact rfl)
                            exact ⟨10, [], 0, 0, 0, _, rfl, HR.out, Kd.R_nil _ _ _ _ _, HZ.2.2⟩
                        · have t2 : (esq != 0) = true := by simpa using h2
                          by_cases k2 : esq < sq
                          · have u2 : decide (esq < sq) = true := decide_eq_true k2
                            have HR := Kp.mk (HBad.out (fun hg => by have h9 := hg.2.2.1; unfold outS at h9; rw [if_pos (by omega)] at h9; omega))
                            clear h2 k2 HBad HGd
                            have PK := Kp.mk (And.intro HR.out (And.intro HJ.out (And.intro HZ6.out (And.intro HR6.out HSz.out))))
                            (try clear HR);(try clear HJ);(try clear HZ6);(try clear HR6);(try clear HSz);(try clear H);(try clear H1);(try clear H2);(try clear HBy);(try clear HBy1);(try clear HVt);(try clear HEt);(try clear HN);(try clear HLF);(try clear HAll);(try clear HLo);(try clear HNt);(try clear HSR);(try clear HIs);(try clear HRow);(try clear HLe);(try clear HOut);(try clear HLO);(try clear HByO);(try clear HO);(try clear Hm5);(try clear Ha');(try clear Hb');(try clear Hs');(try clear G1);(try clear G2);(try clear G3);(try clear HBad);(try clear HGd);(try clear hn);(try clear hn1);(try clear hn2);(try clear hm);(try clear hm1);(try clear hm2);(try clear hsq);(try clear hesq);(try clear hc2);(try clear w1');(try clear w2');(try clear w5');(try clear w3');(try clear w4');(try clear bl);(try clear bd);(try clear bd2);(try clear bx);(try clear Hbb);(try clear hab);(try clear hbr);(try clear HL);(try clear HL1);(try clear HL2);(try clear hk);(try clear hd0);(try clear e1)
                            refine wp_region_below_seq ?_
                            repeat (first | go_big_quiet_step (fail) | quiet_step (fail))
                            refine wpQuiet_nil ?_
                            rintro _ ⟨pq, rfl⟩
                            have HR := Kp.mk PK.out.1
                            have HJ7 := Kp.mk (PK.out.2.1.below pq.h)
                            have HZ7 := Kp.mk ((pq.h.block _ (lt_of_block PK.out.2.2.1)).trans PK.out.2.2.1)
                            have HR7 := Kp.mk (Kd.R_below PK.out.2.2.2.1 pq.h)
                            have HSz := Kp.mk PK.out.2.2.2.2
                            clear Bv1 Bv2 Bv3 Be2 Be3 Be4 Bq0 Bq1 Bq2 Bq3 PK
                            have o0 := cells_top HJ7.out.z9 0 (.slice none 0 0) rfl;have r0 := cells_top HJ7.out.z8 0 (.slice none 0 0) rfl;have g0 := free_top HJ7.out.z8 0;have o1 := cells_top HJ7.out.z9 1 (.int .i64 0) rfl;have r1 := cells_top HJ7.out.z8 1 (.int .i64 0) rfl;have g1 := free_top HJ7.out.z8 1;have o2 := cells_top HJ7.out.z9 2 (.int .i64 0) rfl;have r2 := cells_top HJ7.out.z8 2 (.int .i64 0) rfl;have g2 := free_top HJ7.out.z8 2;have o3 := cells_top HJ7.out.z9 3 (.int .u64 0) rfl;have r3 := cells_top HJ7.out.z8 3 (.int .u64 0) rfl;have g3 := free_top HJ7.out.z8 3
                            have HZ := Jn.ret HJ7.out
                            (try simp only []); repeat (first | go_values | go_skip | go_guarded | go_step)
                            try simp only [Exit.inBlock, Exit.then]
                            refine @ret_ct ?P3293 ?fn3293 ?R3293 ?a3293 ?w3293 ?ty3293 (w.heap.size + 1 + 1) ?t3293 ?cs3293 ?fr3293 ?d3293 ?v3293 ?g1x3293 ?g2x3293 ?g3x3293 ?g4x3293 ?g5x3293 ?g6x3293 ?g7x3293 ?g8x3293 ?g9x3293
                            (case g1x3293 => exact rfl);(case g2x3293 => exact rfl);(case g3x3293 => exact rfl);(case g4x3293 => exact HZ.1);(case g5x3293 => exact Try.underlying27);(case g6x3293 => exact rfl);(case g7x3293 => kernel_rfl);(case g8x3293 => exact rfl)
                            exact ⟨10, [], 0, 0, 0, _, rfl, HR.out, Kd.R_nil _ _ _ _ _, HZ.2.2⟩
                          · have u2 : decide (esq < sq) = false := decide_eq_false k2
                            have G3 : Kp (sq ≤ outS sq esq) := ⟨by unfold outS; rw [if_pos (by omega)]; omega⟩
                            clear h2 k2
                            by_cases hvo : VOk O a' b' s'
                            · have HRV : Kp (∀ W, Below (w5.alloc (.cells #[.slice A5 m5 c5, .int .i64 a', .int .i64 b', .int .u64 s'] 27)).heap.size (w5.alloc (.cells #[.slice A5 m5 c5, .int .i64 a', .int .i64 b', .int .u64 s'] 27)) W → Calls Try.prog 17 #[.agg #[.slice A5 m5 c5, .int .i64 a', .int .i64 b', .int .u64 s']] W (fun e w' => e = .returned (.bool true) ∧ Below W.heap.size W w')) := ⟨fun W hW => by
                                  have hcc := ref_version (c := c5) a' b' s' (show kRn.C W A5 O.length O from Kd.C_below (Kd.R_reads' HR6.out).2.2 hW) HByO.out
                                  rw [← Hm5.out] at hcc
                                  exact hcc.mono (fun e w' ⟨b, he, hb, hB⟩ => ⟨by rw [he, hb.2 hvo], hB⟩)⟩
                              have HR := Kp.mk (HGd.out ⟨G1.out, G2.out, G3.out, by rw [HO.out, Ha'.out, Hb'.out, Hs'.out] at hvo; exact hvo⟩)
                              clear hvo HBad HGd
                              have PK := Kp.mk (And.intro HR.out (And.intro HJ.out (And.intro HZ6.out (And.intro HR6.out HSz.out))))
                              (try clear HR);(try clear HJ);(try clear HZ6);(try clear HR6);(try clear HSz);(try clear H);(try clear H1);(try clear H2);(try clear HBy);(try clear HBy1);(try clear HVt);(try clear HEt);(try clear HN);(try clear HLF);(try clear HAll);(try clear HLo);(try clear HNt);(try clear HSR);(try clear HIs);(try clear HRow);(try clear HLe);(try clear HOut);(try clear HLO);(try clear HByO);(try clear HO);(try clear Hm5);(try clear Ha');(try clear Hb');(try clear Hs');(try clear G1);(try clear G2);(try clear G3);(try clear HBad);(try clear HGd);(try clear hn);(try clear hn1);(try clear hn2);(try clear hm);(try clear hm1);(try clear hm2);(try clear hsq);(try clear hesq);(try clear hc2);(try clear w1');(try clear w2');(try clear w5');(try clear w3');(try clear w4');(try clear bl);(try clear bd);(try clear bd2);(try clear bx);(try clear Hbb);(try clear hab);(try clear hbr);(try clear HL);(try clear HL1);(try clear HL2);(try clear hk);(try clear hd0);(try clear e1)
                              refine wp_region_below_seq ?_
                              repeat (first | go_big_quiet_step ((go_at_call 17; exact calls_blw (HRV.out _ (Blw.h _)))) | quiet_step ((go_at_call 17; exact calls_blw (HRV.out _ (Blw.h _)))))
                              refine wpQuiet_nil ?_
                              rintro _ ⟨pq, rfl⟩
                              have HR := Kp.mk PK.out.1
                              have HJ7 := Kp.mk (PK.out.2.1.below pq.h)
                              have HZ7 := Kp.mk ((pq.h.block _ (lt_of_block PK.out.2.2.1)).trans PK.out.2.2.1)
                              have HR7 := Kp.mk (Kd.R_below PK.out.2.2.2.1 pq.h)
                              have HSz := Kp.mk PK.out.2.2.2.2
                              clear Bv1 Bv2 Bv3 Be2 Be3 Be4 Bq0 Bq1 Bq2 Bq3 PK
                              clear HRV
                              have q0 := cells_top HZ7.out 0 (.slice A5 m5 c5) rfl;have q1 := cells_top HZ7.out 1 (.int .i64 a') rfl;have q2 := cells_top HZ7.out 2 (.int .i64 b') rfl;have q3 := cells_top HZ7.out 3 (.int .u64 s') rfl;have r0 := cells_top HJ7.out.z8 0 (.slice none 0 0) rfl;have g0 := free_top HJ7.out.z8 0;have r1 := cells_top HJ7.out.z8 1 (.int .i64 0) rfl;have g1 := free_top HJ7.out.z8 1;have r2 := cells_top HJ7.out.z8 2 (.int .i64 0) rfl;have g2 := free_top HJ7.out.z8 2;have r3 := cells_top HJ7.out.z8 3 (.int .u64 0) rfl;have g3 := free_top HJ7.out.z8 3
                              have HZ := laid4 HJ7.out.z8 (.slice A5 m5 c5) (.int .i64 a') (.int .i64 b') (.int .u64 s')
                              have HP := Kp.mk (put_R (Kd.R_lower HR7.out HSz.out) HJ7.out.z8 (.slice A5 m5 c5) (.int .i64 a') (.int .i64 b') (.int .u64 s'))
                              (try simp only []); repeat (first | go_values | go_skip | go_guarded | go_step)
                              try simp only [Exit.inBlock, Exit.then]
                              refine @ret_ct ?P3402 ?fn3402 ?R3402 ?a3402 ?w3402 ?ty3402 (w.heap.size + 1 + 1) ?t3402 ?cs3402 ?fr3402 ?d3402 ?v3402 ?g1x3402 ?g2x3402 ?g3x3402 ?g4x3402 ?g5x3402 ?g6x3402 ?g7x3402 ?g8x3402 ?g9x3402
                              (case g1x3402 => exact rfl);(case g2x3402 => exact rfl);(case g3x3402 => exact rfl);(case g4x3402 => exact HZ);(case g5x3402 => exact Try.underlying27);(case g6x3402 => exact rfl);(case g7x3402 => kernel_rfl);(case g8x3402 => exact rfl)
                              have ub : w.heap.size ≤ w.heap.size + 1 + 1 := Nat.le_add_right _ 2
                              exact ⟨0, O, a', b', s', _, rfl, HR.out, HP.out, (((HJ7.out.b.setCell ub _).setCell ub _).setCell ub _).setCell ub _⟩
                            · have HRV : Kp (∀ W, Below (w5.alloc (.cells #[.slice A5 m5 c5, .int .i64 a', .int .i64 b', .int .u64 s'] 27)).heap.size (w5.alloc (.cells #[.slice A5 m5 c5, .int .i64 a', .int .i64 b', .int .u64 s'] 27)) W → Calls Try.prog 17 #[.agg #[.slice A5 m5 c5, .int .i64 a', .int .i64 b', .int .u64 s']] W (fun e w' => e = .returned (.bool false) ∧ Below W.heap.size W w')) := ⟨fun W hW => by
                                  have hcc := ref_version (c := c5) a' b' s' (show kRn.C W A5 O.length O from Kd.C_below (Kd.R_reads' HR6.out).2.2 hW) HByO.out
                                  rw [← Hm5.out] at hcc
                                  exact hcc.mono (fun e w' ⟨b, he, hb, hB⟩ => ⟨by rw [he]; cases b with | false => rfl | true => exact absurd (hb.1 rfl) hvo, hB⟩)⟩
                              have HR := Kp.mk (HBad.out (fun hg => by have h9 := hg.2.2.2; rw [← HO.out, ← Ha'.out, ← Hb'.out, ← Hs'.out] at h9; exact hvo h9))
                              clear hvo HBad HGd
                              have PK := Kp.mk (And.intro HR.out (And.intro HJ.out (And.intro HZ6.out (And.intro HR6.out HSz.out))))
                              (try clear HR);(try clear HJ);(try clear HZ6);(try clear HR6);(try clear HSz);(try clear H);(try clear H1);(try clear H2);(try clear HBy);(try clear HBy1);(try clear HVt);(try clear HEt);(try clear HN);(try clear HLF);(try clear HAll);(try clear HLo);(try clear HNt);(try clear HSR);(try clear HIs);(try clear HRow);(try clear HLe);(try clear HOut);(try clear HLO);(try clear HByO);(try clear HO);(try clear Hm5);(try clear Ha');(try clear Hb');(try clear Hs');(try clear G1);(try clear G2);(try clear G3);(try clear HBad);(try clear HGd);(try clear hn);(try clear hn1);(try clear hn2);(try clear hm);(try clear hm1);(try clear hm2);(try clear hsq);(try clear hesq);(try clear hc2);(try clear w1');(try clear w2');(try clear w5');(try clear w3');(try clear w4');(try clear bl);(try clear bd);(try clear bd2);(try clear bx);(try clear Hbb);(try clear hab);(try clear hbr);(try clear HL);(try clear HL1);(try clear HL2);(try clear hk);(try clear hd0);(try clear e1)
                              refine wp_region_below_seq ?_
                              repeat (first | go_big_quiet_step ((go_at_call 17; exact calls_blw (HRV.out _ (Blw.h _)))) | quiet_step ((go_at_call 17; exact calls_blw (HRV.out _ (Blw.h _)))))
                              refine wpQuiet_nil ?_
                              rintro _ ⟨pq, rfl⟩
                              have HR := Kp.mk PK.out.1
                              have HJ7 := Kp.mk (PK.out.2.1.below pq.h)
                              have HZ7 := Kp.mk ((pq.h.block _ (lt_of_block PK.out.2.2.1)).trans PK.out.2.2.1)
                              have HR7 := Kp.mk (Kd.R_below PK.out.2.2.2.1 pq.h)
                              have HSz := Kp.mk PK.out.2.2.2.2
                              clear Bv1 Bv2 Bv3 Be2 Be3 Be4 Bq0 Bq1 Bq2 Bq3 PK
                              clear HRV
                              have o0 := cells_top HJ7.out.z9 0 (.slice none 0 0) rfl;have r0 := cells_top HJ7.out.z8 0 (.slice none 0 0) rfl;have g0 := free_top HJ7.out.z8 0;have o1 := cells_top HJ7.out.z9 1 (.int .i64 0) rfl;have r1 := cells_top HJ7.out.z8 1 (.int .i64 0) rfl;have g1 := free_top HJ7.out.z8 1;have o2 := cells_top HJ7.out.z9 2 (.int .i64 0) rfl;have r2 := cells_top HJ7.out.z8 2 (.int .i64 0) rfl;have g2 := free_top HJ7.out.z8 2;have o3 := cells_top HJ7.out.z9 3 (.int .u64 0) rfl;have r3 := cells_top HJ7.out.z8 3 (.int .u64 0) rfl;have g3 := free_top HJ7.out.z8 3
                              have HZ := Jn.ret HJ7.out
                              (try simp only []); repeat (first | go_values | go_skip | go_guarded | go_step)
                              try simp only [Exit.inBlock, Exit.then]
                              refine @ret_ct ?P3507 ?fn3507 ?R3507 ?a3507 ?w3507 ?ty3507 (w.heap.size + 1 + 1) ?t3507 ?cs3507 ?fr3507 ?d3507 ?v3507 ?g1x3507 ?g2x3507 ?g3x3507 ?g4x3507 ?g5x3507 ?g6x3507 ?g7x3507 ?g8x3507 ?g9x3507
                              (case g1x3507 => exact rfl);(case g2x3507 => exact rfl);(case g3x3507 => exact rfl);(case g4x3507 => exact HZ.1);(case g5x3507 => exact Try.underlying27);(case g6x3507 => exact rfl);(case g7x3507 => kernel_rfl);(case g8x3507 => exact rfl)
                              exact ⟨10, [], 0, 0, 0, _, rfl, HR.out, Kd.R_nil _ _ _ _ _, HZ.2.2⟩
                      · have t1 : (elg != 0) = true := by simpa using h1
                        by_cases k1 : elg < lg
                        · have u1 : decide (elg < lg) = true := decide_eq_true k1
                          have HR := Kp.mk (HBad.out (fun hg => by have h9 := hg.2.1; unfold laterB at h9; have := of_decide_eq_true h9; omega))
                          clear h1 k1 HBad HGd
                          have PK := Kp.mk (And.intro HR.out (And.intro HJ.out (And.intro HZ6.out (And.intro HR6.out HSz.out))))
                          (try clear HR);(try clear HJ);(try clear HZ6);(try clear HR6);(try clear HSz);(try clear H);(try clear H1);(try clear H2);(try clear HBy);(try clear HBy1);(try clear HVt);(try clear HEt);(try clear HN);(try clear HLF);(try clear HAll);(try clear HLo);(try clear HNt);(try clear HSR);(try clear HIs);(try clear HRow);(try clear HLe);(try clear HOut);(try clear HLO);(try clear HByO);(try clear HO);(try clear Hm5);(try clear Ha');(try clear Hb');(try clear Hs');(try clear G1);(try clear G2);(try clear G3);(try clear HBad);(try clear HGd);(try clear hn);(try clear hn1);(try clear hn2);(try clear hm);(try clear hm1);(try clear hm2);(try clear hsq);(try clear hesq);(try clear hc2);(try clear w1');(try clear w2');(try clear w5');(try clear w3');(try clear w4');(try clear bl);(try clear bd);(try clear bd2);(try clear bx);(try clear Hbb);(try clear hab);(try clear hbr);(try clear HL);(try clear HL1);(try clear HL2);(try clear hk);(try clear hd0);(try clear e1)
                          refine wp_region_below_seq ?_
                          repeat (first | go_big_quiet_step (fail) | quiet_step (fail))
                          refine wpQuiet_nil ?_
                          rintro _ ⟨pq, rfl⟩
                          have HR := Kp.mk PK.out.1
                          have HJ7 := Kp.mk (PK.out.2.1.below pq.h)
                          have HZ7 := Kp.mk ((pq.h.block _ (lt_of_block PK.out.2.2.1)).trans PK.out.2.2.1)
                          have HR7 := Kp.mk (Kd.R_below PK.out.2.2.2.1 pq.h)
                          have HSz := Kp.mk PK.out.2.2.2.2
                          clear Bv1 Bv2 Bv3 Be2 Be3 Be4 Bq0 Bq1 Bq2 Bq3 PK
                          have o0 := cells_top HJ7.out.z9 0 (.slice none 0 0) rfl;have r0 := cells_top HJ7.out.z8 0 (.slice none 0 0) rfl;have g0 := free_top HJ7.out.z8 0;have o1 := cells_top HJ7.out.z9 1 (.int .i64 0) rfl;have r1 := cells_top HJ7.out.z8 1 (.int .i64 0) rfl;have g1 := free_top HJ7.out.z8 1;have o2 := cells_top HJ7.out.z9 2 (.int .i64 0) rfl;have r2 := cells_top HJ7.out.z8 2 (.int .i64 0) rfl;have g2 := free_top HJ7.out.z8 2;have o3 := cells_top HJ7.out.z9 3 (.int .u64 0) rfl;have r3 := cells_top HJ7.out.z8 3 (.int .u64 0) rfl;have g3 := free_top HJ7.out.z8 3
                          have HZ := Jn.ret HJ7.out
                          (try simp only []); repeat (first | go_values | go_skip | go_guarded | go_step)
                          try simp only [Exit.inBlock, Exit.then]
                          refine @ret_ct ?P3609 ?fn3609 ?R3609 ?a3609 ?w3609 ?ty3609 (w.heap.size + 1 + 1) ?t3609 ?cs3609 ?fr3609 ?d3609 ?v3609 ?g1x3609 ?g2x3609 ?g3x3609 ?g4x3609 ?g5x3609 ?g6x3609 ?g7x3609 ?g8x3609 ?g9x3609
                          (case g1x3609 => exact rfl);(case g2x3609 => exact rfl);(case g3x3609 => exact rfl);(case g4x3609 => exact HZ.1);(case g5x3609 => exact Try.underlying27);(case g6x3609 => exact rfl);(case g7x3609 => kernel_rfl);(case g8x3609 => exact rfl)
                          exact ⟨10, [], 0, 0, 0, _, rfl, HR.out, Kd.R_nil _ _ _ _ _, HZ.2.2⟩
                        · have u1 : decide (elg < lg) = false := decide_eq_false k1
                          have G2 : Kp (laterB lg elg = true) := ⟨by unfold laterB; exact decide_eq_true (.inr (by omega))⟩
                          clear h1 k1
                          by_cases h2 : esq = 0
                          · have t2 : (esq != 0) = false := by simpa using h2
                            have G3 : Kp (sq ≤ outS sq esq) := ⟨by unfold outS; rw [if_neg (by omega)]; exact Int.le_refl _⟩
                            clear h2
                            by_cases hvo : VOk O a' b' s'
                            · have HRV : Kp (∀ W, Below (w5.alloc (.cells #[.slice A5 m5 c5, .int .i64 a', .int .i64 b', .int .u64 s'] 27)).heap.size (w5.alloc (.cells #[.slice A5 m5 c5, .int .i64 a', .int .i64 b', .int .u64 s'] 27)) W → Calls Try.prog 17 #[.agg #[.slice A5 m5 c5, .int .i64 a', .int .i64 b', .int .u64 s']] W (fun e w' => e = .returned (.bool true) ∧ Below W.heap.size W w')) := ⟨fun W hW => by
                                  have hcc := ref_version (c := c5) a' b' s' (show kRn.C W A5 O.length O from Kd.C_below (Kd.R_reads' HR6.out).2.2 hW) HByO.out
                                  rw [← Hm5.out] at hcc
                                  exact hcc.mono (fun e w' ⟨b, he, hb, hB⟩ => ⟨by rw [he, hb.2 hvo], hB⟩)⟩
                              have HR := Kp.mk (HGd.out ⟨G1.out, G2.out, G3.out, by rw [HO.out, Ha'.out, Hb'.out, Hs'.out] at hvo; exact hvo⟩)
                              clear hvo HBad HGd
                              have PK := Kp.mk (And.intro HR.out (And.intro HJ.out (And.intro HZ6.out (And.intro HR6.out HSz.out))))
                              (try clear HR);(try clear HJ);(try clear HZ6);(try clear HR6);(try clear HSz);(try clear H);(try clear H1);(try clear H2);(try clear HBy);(try clear HBy1);(try clear HVt);(try clear HEt);(try clear HN);(try clear HLF);(try clear HAll);(try clear HLo);(try clear HNt);(try clear HSR);(try clear HIs);(try clear HRow);(try clear HLe);(try clear HOut);(try clear HLO);(try clear HByO);(try clear HO);(try clear Hm5);(try clear Ha');(try clear Hb');(try clear Hs');(try clear G1);(try clear G2);(try clear G3);(try clear HBad);(try clear HGd);(try clear hn);(try clear hn1);(try clear hn2);(try clear hm);(try clear hm1);(try clear hm2);(try clear hsq);(try clear hesq);(try clear hc2);(try clear w1');(try clear w2');(try clear w5');(try clear w3');(try clear w4');(try clear bl);(try clear bd);(try clear bd2);(try clear bx);(try clear Hbb);(try clear hab);(try clear hbr);(try clear HL);(try clear HL1);(try clear HL2);(try clear hk);(try clear hd0);(try clear e1)
                              refine wp_region_below_seq ?_
                              repeat (first | go_big_quiet_step ((go_at_call 17; exact calls_blw (HRV.out _ (Blw.h _)))) | quiet_step ((go_at_call 17; exact calls_blw (HRV.out _ (Blw.h _)))))
                              refine wpQuiet_nil ?_
                              rintro _ ⟨pq, rfl⟩
                              have HR := Kp.mk PK.out.1
                              have HJ7 := Kp.mk (PK.out.2.1.below pq.h)
                              have HZ7 := Kp.mk ((pq.h.block _ (lt_of_block PK.out.2.2.1)).trans PK.out.2.2.1)
                              have HR7 := Kp.mk (Kd.R_below PK.out.2.2.2.1 pq.h)
                              have HSz := Kp.mk PK.out.2.2.2.2
                              clear Bv1 Bv2 Bv3 Be2 Be3 Be4 Bq0 Bq1 Bq2 Bq3 PK
                              clear HRV
                              have q0 := cells_top HZ7.out 0 (.slice A5 m5 c5) rfl;have q1 := cells_top HZ7.out 1 (.int .i64 a') rfl;have q2 := cells_top HZ7.out 2 (.int .i64 b') rfl;have q3 := cells_top HZ7.out 3 (.int .u64 s') rfl;have r0 := cells_top HJ7.out.z8 0 (.slice none 0 0) rfl;have g0 := free_top HJ7.out.z8 0;have r1 := cells_top HJ7.out.z8 1 (.int .i64 0) rfl;have g1 := free_top HJ7.out.z8 1;have r2 := cells_top HJ7.out.z8 2 (.int .i64 0) rfl;have g2 := free_top HJ7.out.z8 2;have r3 := cells_top HJ7.out.z8 3 (.int .u64 0) rfl;have g3 := free_top HJ7.out.z8 3
                              have HZ := laid4 HJ7.out.z8 (.slice A5 m5 c5) (.int .i64 a') (.int .i64 b') (.int .u64 s')
                              have HP := Kp.mk (put_R (Kd.R_lower HR7.out HSz.out) HJ7.out.z8 (.slice A5 m5 c5) (.int .i64 a') (.int .i64 b') (.int .u64 s'))
                              (try simp only []); repeat (first | go_values | go_skip | go_guarded | go_step)
                              try simp only [Exit.inBlock, Exit.then]
                              refine @ret_ct ?P3722 ?fn3722 ?R3722 ?a3722 ?w3722 ?ty3722 (w.heap.size + 1 + 1) ?t3722 ?cs3722 ?fr3722 ?d3722 ?v3722 ?g1x3722 ?g2x3722 ?g3x3722 ?g4x3722 ?g5x3722 ?g6x3722 ?g7x3722 ?g8x3722 ?g9x3722
                              (case g1x3722 => exact rfl);(case g2x3722 => exact rfl);(case g3x3722 => exact rfl);(case g4x3722 => exact HZ);(case g5x3722 => exact Try.underlying27);(case g6x3722 => exact rfl);(case g7x3722 => kernel_rfl);(case g8x3722 => exact rfl)
                              have ub : w.heap.size ≤ w.heap.size + 1 + 1 := Nat.le_add_right _ 2
                              exact ⟨0, O, a', b', s', _, rfl, HR.out, HP.out, (((HJ7.out.b.setCell ub _).setCell ub _).setCell ub _).setCell ub _⟩
                            · have HRV : Kp (∀ W, Below (w5.alloc (.cells #[.slice A5 m5 c5, .int .i64 a', .int .i64 b', .int .u64 s'] 27)).heap.size (w5.alloc (.cells #[.slice A5 m5 c5, .int .i64 a', .int .i64 b', .int .u64 s'] 27)) W → Calls Try.prog 17 #[.agg #[.slice A5 m5 c5, .int .i64 a', .int .i64 b', .int .u64 s']] W (fun e w' => e = .returned (.bool false) ∧ Below W.heap.size W w')) := ⟨fun W hW => by
                                  have hcc := ref_version (c := c5) a' b' s' (show kRn.C W A5 O.length O from Kd.C_below (Kd.R_reads' HR6.out).2.2 hW) HByO.out
                                  rw [← Hm5.out] at hcc
                                  exact hcc.mono (fun e w' ⟨b, he, hb, hB⟩ => ⟨by rw [he]; cases b with | false => rfl | true => exact absurd (hb.1 rfl) hvo, hB⟩)⟩
                              have HR := Kp.mk (HBad.out (fun hg => by have h9 := hg.2.2.2; rw [← HO.out, ← Ha'.out, ← Hb'.out, ← Hs'.out] at h9; exact hvo h9))
                              clear hvo HBad HGd
                              have PK := Kp.mk (And.intro HR.out (And.intro HJ.out (And.intro HZ6.out (And.intro HR6.out HSz.out))))
                              (try clear HR);(try clear HJ);(try clear HZ6);(try clear HR6);(try clear HSz);(try clear H);(try clear H1);(try clear H2);(try clear HBy);(try clear HBy1);(try clear HVt);(try clear HEt);(try clear HN);(try clear HLF);(try clear HAll);(try clear HLo);(try clear HNt);(try clear HSR);(try clear HIs);(try clear HRow);(try clear HLe);(try clear HOut);(try clear HLO);(try clear HByO);(try clear HO);(try clear Hm5);(try clear Ha');(try clear Hb');(try clear Hs');(try clear G1);(try clear G2);(try clear G3);(try clear HBad);(try clear HGd);(try clear hn);(try clear hn1);(try clear hn2);(try clear hm);(try clear hm1);(try clear hm2);(try clear hsq);(try clear hesq);(try clear hc2);(try clear w1');(try clear w2');(try clear w5');(try clear w3');(try clear w4');(try clear bl);(try clear bd);(try clear bd2);(try clear bx);(try clear Hbb);(try clear hab);(try clear hbr);(try clear HL);(try clear HL1);(try clear HL2);(try clear hk);(try clear hd0);(try clear e1)
                              refine wp_region_below_seq ?_
                              repeat (first | go_big_quiet_step ((go_at_call 17; exact calls_blw (HRV.out _ (Blw.h _)))) | quiet_step ((go_at_call 17; exact calls_blw (HRV.out _ (Blw.h _)))))
                              refine wpQuiet_nil ?_
                              rintro _ ⟨pq, rfl⟩
                              have HR := Kp.mk PK.out.1
                              have HJ7 := Kp.mk (PK.out.2.1.below pq.h)
                              have HZ7 := Kp.mk ((pq.h.block _ (lt_of_block PK.out.2.2.1)).trans PK.out.2.2.1)
                              have HR7 := Kp.mk (Kd.R_below PK.out.2.2.2.1 pq.h)
                              have HSz := Kp.mk PK.out.2.2.2.2
                              clear Bv1 Bv2 Bv3 Be2 Be3 Be4 Bq0 Bq1 Bq2 Bq3 PK
                              clear HRV
                              have o0 := cells_top HJ7.out.z9 0 (.slice none 0 0) rfl;have r0 := cells_top HJ7.out.z8 0 (.slice none 0 0) rfl;have g0 := free_top HJ7.out.z8 0;have o1 := cells_top HJ7.out.z9 1 (.int .i64 0) rfl;have r1 := cells_top HJ7.out.z8 1 (.int .i64 0) rfl;have g1 := free_top HJ7.out.z8 1;have o2 := cells_top HJ7.out.z9 2 (.int .i64 0) rfl;have r2 := cells_top HJ7.out.z8 2 (.int .i64 0) rfl;have g2 := free_top HJ7.out.z8 2;have o3 := cells_top HJ7.out.z9 3 (.int .u64 0) rfl;have r3 := cells_top HJ7.out.z8 3 (.int .u64 0) rfl;have g3 := free_top HJ7.out.z8 3
                              have HZ := Jn.ret HJ7.out
                              (try simp only []); repeat (first | go_values | go_skip | go_guarded | go_step)
                              try simp only [Exit.inBlock, Exit.then]
                              refine @ret_ct ?P3827 ?fn3827 ?R3827 ?a3827 ?w3827 ?ty3827 (w.heap.size + 1 + 1) ?t3827 ?cs3827 ?fr3827 ?d3827 ?v3827 ?g1x3827 ?g2x3827 ?g3x3827 ?g4x3827 ?g5x3827 ?g6x3827 ?g7x3827 ?g8x3827 ?g9x3827
                              (case g1x3827 => exact rfl);(case g2x3827 => exact rfl);(case g3x3827 => exact rfl);(case g4x3827 => exact HZ.1);(case g5x3827 => exact Try.underlying27);(case g6x3827 => exact rfl);(case g7x3827 => kernel_rfl);(case g8x3827 => exact rfl)
                              exact ⟨10, [], 0, 0, 0, _, rfl, HR.out, Kd.R_nil _ _ _ _ _, HZ.2.2⟩
                          · have t2 : (esq != 0) = true := by simpa using h2
                            by_cases k2 : esq < sq
                            · have u2 : decide (esq < sq) = true := decide_eq_true k2
                              have HR := Kp.mk (HBad.out (fun hg => by have h9 := hg.2.2.1; unfold outS at h9; rw [if_pos (by omega)] at h9; omega))
                              clear h2 k2 HBad HGd
                              have PK := Kp.mk (And.intro HR.out (And.intro HJ.out (And.intro HZ6.out (And.intro HR6.out HSz.out))))
                              (try clear HR);(try clear HJ);(try clear HZ6);(try clear HR6);(try clear HSz);(try clear H);(try clear H1);(try clear H2);(try clear HBy);(try clear HBy1);(try clear HVt);(try clear HEt);(try clear HN);(try clear HLF);(try clear HAll);(try clear HLo);(try clear HNt);(try clear HSR);(try clear HIs);(try clear HRow);(try clear HLe);(try clear HOut);(try clear HLO);(try clear HByO);(try clear HO);(try clear Hm5);(try clear Ha');(try clear Hb');(try clear Hs');(try clear G1);(try clear G2);(try clear G3);(try clear HBad);(try clear HGd);(try clear hn);(try clear hn1);(try clear hn2);(try clear hm);(try clear hm1);(try clear hm2);(try clear hsq);(try clear hesq);(try clear hc2);(try clear w1');(try clear w2');(try clear w5');(try clear w3');(try clear w4');(try clear bl);(try clear bd);(try clear bd2);(try clear bx);(try clear Hbb);(try clear hab);(try clear hbr);(try clear HL);(try clear HL1);(try clear HL2);(try clear hk);(try clear hd0);(try clear e1)
                              refine wp_region_below_seq ?_
                              repeat (first | go_big_quiet_step (fail) | quiet_step (fail))
                              refine wpQuiet_nil ?_
                              rintro _ ⟨pq, rfl⟩
                              have HR := Kp.mk PK.out.1
                              have HJ7 := Kp.mk (PK.out.2.1.below pq.h)
                              have HZ7 := Kp.mk ((pq.h.block _ (lt_of_block PK.out.2.2.1)).trans PK.out.2.2.1)
                              have HR7 := Kp.mk (Kd.R_below PK.out.2.2.2.1 pq.h)
                              have HSz := Kp.mk PK.out.2.2.2.2
                              clear Bv1 Bv2 Bv3 Be2 Be3 Be4 Bq0 Bq1 Bq2 Bq3 PK
                              have o0 := cells_top HJ7.out.z9 0 (.slice none 0 0) rfl;have r0 := cells_top HJ7.out.z8 0 (.slice none 0 0) rfl;have g0 := free_top HJ7.out.z8 0;have o1 := cells_top HJ7.out.z9 1 (.int .i64 0) rfl;have r1 := cells_top HJ7.out.z8 1 (.int .i64 0) rfl;have g1 := free_top HJ7.out.z8 1;have o2 := cells_top HJ7.out.z9 2 (.int .i64 0) rfl;have r2 := cells_top HJ7.out.z8 2 (.int .i64 0) rfl;have g2 := free_top HJ7.out.z8 2;have o3 := cells_top HJ7.out.z9 3 (.int .u64 0) rfl;have r3 := cells_top HJ7.out.z8 3 (.int .u64 0) rfl;have g3 := free_top HJ7.out.z8 3
                              have HZ := Jn.ret HJ7.out
                              (try simp only []); repeat (first | go_values | go_skip | go_guarded | go_step)
                              try simp only [Exit.inBlock, Exit.then]
                              refine @ret_ct ?P3929 ?fn3929 ?R3929 ?a3929 ?w3929 ?ty3929 (w.heap.size + 1 + 1) ?t3929 ?cs3929 ?fr3929 ?d3929 ?v3929 ?g1x3929 ?g2x3929 ?g3x3929 ?g4x3929 ?g5x3929 ?g6x3929 ?g7x3929 ?g8x3929 ?g9x3929
                              (case g1x3929 => exact rfl);(case g2x3929 => exact rfl);(case g3x3929 => exact rfl);(case g4x3929 => exact HZ.1);(case g5x3929 => exact Try.underlying27);(case g6x3929 => exact rfl);(case g7x3929 => kernel_rfl);(case g8x3929 => exact rfl)
                              exact ⟨10, [], 0, 0, 0, _, rfl, HR.out, Kd.R_nil _ _ _ _ _, HZ.2.2⟩
                            · have u2 : decide (esq < sq) = false := decide_eq_false k2
                              have G3 : Kp (sq ≤ outS sq esq) := ⟨by unfold outS; rw [if_pos (by omega)]; omega⟩
                              clear h2 k2
                              by_cases hvo : VOk O a' b' s'
                              · have HRV : Kp (∀ W, Below (w5.alloc (.cells #[.slice A5 m5 c5, .int .i64 a', .int .i64 b', .int .u64 s'] 27)).heap.size (w5.alloc (.cells #[.slice A5 m5 c5, .int .i64 a', .int .i64 b', .int .u64 s'] 27)) W → Calls Try.prog 17 #[.agg #[.slice A5 m5 c5, .int .i64 a', .int .i64 b', .int .u64 s']] W (fun e w' => e = .returned (.bool true) ∧ Below W.heap.size W w')) := ⟨fun W hW => by
                                    have hcc := ref_version (c := c5) a' b' s' (show kRn.C W A5 O.length O from Kd.C_below (Kd.R_reads' HR6.out).2.2 hW) HByO.out
                                    rw [← Hm5.out] at hcc
                                    exact hcc.mono (fun e w' ⟨b, he, hb, hB⟩ => ⟨by rw [he, hb.2 hvo], hB⟩)⟩
                                have HR := Kp.mk (HGd.out ⟨G1.out, G2.out, G3.out, by rw [HO.out, Ha'.out, Hb'.out, Hs'.out] at hvo; exact hvo⟩)
                                clear hvo HBad HGd
                                have PK := Kp.mk (And.intro HR.out (And.intro HJ.out (And.intro HZ6.out (And.intro HR6.out HSz.out))))
                                (try clear HR);(try clear HJ);(try clear HZ6);(try clear HR6);(try clear HSz);(try clear H);(try clear H1);(try clear H2);(try clear HBy);(try clear HBy1);(try clear HVt);(try clear HEt);(try clear HN);(try clear HLF);(try clear HAll);(try clear HLo);(try clear HNt);(try clear HSR);(try clear HIs);(try clear HRow);(try clear HLe);(try clear HOut);(try clear HLO);(try clear HByO);(try clear HO);(try clear Hm5);(try clear Ha');(try clear Hb');(try clear Hs');(try clear G1);(try clear G2);(try clear G3);(try clear HBad);(try clear HGd);(try clear hn);(try clear hn1);(try clear hn2);(try clear hm);(try clear hm1);(try clear hm2);(try clear hsq);(try clear hesq);(try clear hc2);(try clear w1');(try clear w2');(try clear w5');(try clear w3');(try clear w4');(try clear bl);(try clear bd);(try clear bd2);(try clear bx);(try clear Hbb);(try clear hab);(try clear hbr);(try clear HL);(try clear HL1);(try clear HL2);(try clear hk);(try clear hd0);(try clear e1)
                                refine wp_region_below_seq ?_
                                repeat (first | go_big_quiet_step ((go_at_call 17; exact calls_blw (HRV.out _ (Blw.h _)))) | quiet_step ((go_at_call 17; exact calls_blw (HRV.out _ (Blw.h _)))))
                                refine wpQuiet_nil ?_
                                rintro _ ⟨pq, rfl⟩
                                have HR := Kp.mk PK.out.1
                                have HJ7 := Kp.mk (PK.out.2.1.below pq.h)
                                have HZ7 := Kp.mk ((pq.h.block _ (lt_of_block PK.out.2.2.1)).trans PK.out.2.2.1)
                                have HR7 := Kp.mk (Kd.R_below PK.out.2.2.2.1 pq.h)
                                have HSz := Kp.mk PK.out.2.2.2.2
                                clear Bv1 Bv2 Bv3 Be2 Be3 Be4 Bq0 Bq1 Bq2 Bq3 PK
                                clear HRV
                                have q0 := cells_top HZ7.out 0 (.slice A5 m5 c5) rfl;have q1 := cells_top HZ7.out 1 (.int .i64 a') rfl;have q2 := cells_top HZ7.out 2 (.int .i64 b') rfl;have q3 := cells_top HZ7.out 3 (.int .u64 s') rfl;have r0 := cells_top HJ7.out.z8 0 (.slice none 0 0) rfl;have g0 := free_top HJ7.out.z8 0;have r1 := cells_top HJ7.out.z8 1 (.int .i64 0) rfl;have g1 := free_top HJ7.out.z8 1;have r2 := cells_top HJ7.out.z8 2 (.int .i64 0) rfl;have g2 := free_top HJ7.out.z8 2;have r3 := cells_top HJ7.out.z8 3 (.int .u64 0) rfl;have g3 := free_top HJ7.out.z8 3
                                have HZ := laid4 HJ7.out.z8 (.slice A5 m5 c5) (.int .i64 a') (.int .i64 b') (.int .u64 s')
                                have HP := Kp.mk (put_R (Kd.R_lower HR7.out HSz.out) HJ7.out.z8 (.slice A5 m5 c5) (.int .i64 a') (.int .i64 b') (.int .u64 s'))
                                (try simp only []); repeat (first | go_values | go_skip | go_guarded | go_step)
                                try simp only [Exit.inBlock, Exit.then]
                                refine @ret_ct ?P4038 ?fn4038 ?R4038 ?a4038 ?w4038 ?ty4038 (w.heap.size + 1 + 1) ?t4038 ?cs4038 ?fr4038 ?d4038 ?v4038 ?g1x4038 ?g2x4038 ?g3x4038 ?g4x4038 ?g5x4038 ?g6x4038 ?g7x4038 ?g8x4038 ?g9x4038
                                (case g1x4038 => exact rfl);(case g2x4038 => exact rfl);(case g3x4038 => exact rfl);(case g4x4038 => exact HZ);(case g5x4038 => exact Try.underlying27);(case g6x4038 => exact rfl);(case g7x4038 => kernel_rfl);(case g8x4038 => exact rfl)
                                have ub : w.heap.size ≤ w.heap.size + 1 + 1 := Nat.le_add_right _ 2
                                exact ⟨0, O, a', b', s', _, rfl, HR.out, HP.out, (((HJ7.out.b.setCell ub _).setCell ub _).setCell ub _).setCell ub _⟩
                              · have HRV : Kp (∀ W, Below (w5.alloc (.cells #[.slice A5 m5 c5, .int .i64 a', .int .i64 b', .int .u64 s'] 27)).heap.size (w5.alloc (.cells #[.slice A5 m5 c5, .int .i64 a', .int .i64 b', .int .u64 s'] 27)) W → Calls Try.prog 17 #[.agg #[.slice A5 m5 c5, .int .i64 a', .int .i64 b', .int .u64 s']] W (fun e w' => e = .returned (.bool false) ∧ Below W.heap.size W w')) := ⟨fun W hW => by
                                    have hcc := ref_version (c := c5) a' b' s' (show kRn.C W A5 O.length O from Kd.C_below (Kd.R_reads' HR6.out).2.2 hW) HByO.out
                                    rw [← Hm5.out] at hcc
                                    exact hcc.mono (fun e w' ⟨b, he, hb, hB⟩ => ⟨by rw [he]; cases b with | false => rfl | true => exact absurd (hb.1 rfl) hvo, hB⟩)⟩
                                have HR := Kp.mk (HBad.out (fun hg => by have h9 := hg.2.2.2; rw [← HO.out, ← Ha'.out, ← Hb'.out, ← Hs'.out] at h9; exact hvo h9))
                                clear hvo HBad HGd
                                have PK := Kp.mk (And.intro HR.out (And.intro HJ.out (And.intro HZ6.out (And.intro HR6.out HSz.out))))
                                (try clear HR);(try clear HJ);(try clear HZ6);(try clear HR6);(try clear HSz);(try clear H);(try clear H1);(try clear H2);(try clear HBy);(try clear HBy1);(try clear HVt);(try clear HEt);(try clear HN);(try clear HLF);(try clear HAll);(try clear HLo);(try clear HNt);(try clear HSR);(try clear HIs);(try clear HRow);(try clear HLe);(try clear HOut);(try clear HLO);(try clear HByO);(try clear HO);(try clear Hm5);(try clear Ha');(try clear Hb');(try clear Hs');(try clear G1);(try clear G2);(try clear G3);(try clear HBad);(try clear HGd);(try clear hn);(try clear hn1);(try clear hn2);(try clear hm);(try clear hm1);(try clear hm2);(try clear hsq);(try clear hesq);(try clear hc2);(try clear w1');(try clear w2');(try clear w5');(try clear w3');(try clear w4');(try clear bl);(try clear bd);(try clear bd2);(try clear bx);(try clear Hbb);(try clear hab);(try clear hbr);(try clear HL);(try clear HL1);(try clear HL2);(try clear hk);(try clear hd0);(try clear e1)
                                refine wp_region_below_seq ?_
                                repeat (first | go_big_quiet_step ((go_at_call 17; exact calls_blw (HRV.out _ (Blw.h _)))) | quiet_step ((go_at_call 17; exact calls_blw (HRV.out _ (Blw.h _)))))
                                refine wpQuiet_nil ?_
                                rintro _ ⟨pq, rfl⟩
                                have HR := Kp.mk PK.out.1
                                have HJ7 := Kp.mk (PK.out.2.1.below pq.h)
                                have HZ7 := Kp.mk ((pq.h.block _ (lt_of_block PK.out.2.2.1)).trans PK.out.2.2.1)
                                have HR7 := Kp.mk (Kd.R_below PK.out.2.2.2.1 pq.h)
                                have HSz := Kp.mk PK.out.2.2.2.2
                                clear Bv1 Bv2 Bv3 Be2 Be3 Be4 Bq0 Bq1 Bq2 Bq3 PK
                                clear HRV
                                have o0 := cells_top HJ7.out.z9 0 (.slice none 0 0) rfl;have r0 := cells_top HJ7.out.z8 0 (.slice none 0 0) rfl;have g0 := free_top HJ7.out.z8 0;have o1 := cells_top HJ7.out.z9 1 (.int .i64 0) rfl;have r1 := cells_top HJ7.out.z8 1 (.int .i64 0) rfl;have g1 := free_top HJ7.out.z8 1;have o2 := cells_top HJ7.out.z9 2 (.int .i64 0) rfl;have r2 := cells_top HJ7.out.z8 2 (.int .i64 0) rfl;have g2 := free_top HJ7.out.z8 2;have o3 := cells_top HJ7.out.z9 3 (.int .u64 0) rfl;have r3 := cells_top HJ7.out.z8 3 (.int .u64 0) rfl;have g3 := free_top HJ7.out.z8 3
                                have HZ := Jn.ret HJ7.out
                                (try simp only []); repeat (first | go_values | go_skip | go_guarded | go_step)
                                try simp only [Exit.inBlock, Exit.then]
                                refine @ret_ct ?P4143 ?fn4143 ?R4143 ?a4143 ?w4143 ?ty4143 (w.heap.size + 1 + 1) ?t4143 ?cs4143 ?fr4143 ?d4143 ?v4143 ?g1x4143 ?g2x4143 ?g3x4143 ?g4x4143 ?g5x4143 ?g6x4143 ?g7x4143 ?g8x4143 ?g9x4143
                                (case g1x4143 => exact rfl);(case g2x4143 => exact rfl);(case g3x4143 => exact rfl);(case g4x4143 => exact HZ.1);(case g5x4143 => exact Try.underlying27);(case g6x4143 => exact rfl);(case g7x4143 => kernel_rfl);(case g8x4143 => exact rfl)
                                exact ⟨10, [], 0, 0, 0, _, rfl, HR.out, Kd.R_nil _ _ _ _ _, HZ.2.2⟩
                    · have t0 : (enx != 0) = true := by simpa using h0
                      by_cases k0 : enx < nx
                      · have u0 : decide (enx < nx) = true := decide_eq_true k0
                        have HR := Kp.mk (HBad.out (fun hg => by have h9 := hg.1; unfold laterB at h9; have := of_decide_eq_true h9; omega))
                        clear h0 k0 HBad HGd
                        have PK := Kp.mk (And.intro HR.out (And.intro HJ.out (And.intro HZ6.out (And.intro HR6.out HSz.out))))
                        (try clear HR);(try clear HJ);(try clear HZ6);(try clear HR6);(try clear HSz);(try clear H);(try clear H1);(try clear H2);(try clear HBy);(try clear HBy1);(try clear HVt);(try clear HEt);(try clear HN);(try clear HLF);(try clear HAll);(try clear HLo);(try clear HNt);(try clear HSR);(try clear HIs);(try clear HRow);(try clear HLe);(try clear HOut);(try clear HLO);(try clear HByO);(try clear HO);(try clear Hm5);(try clear Ha');(try clear Hb');(try clear Hs');(try clear G1);(try clear G2);(try clear G3);(try clear HBad);(try clear HGd);(try clear hn);(try clear hn1);(try clear hn2);(try clear hm);(try clear hm1);(try clear hm2);(try clear hsq);(try clear hesq);(try clear hc2);(try clear w1');(try clear w2');(try clear w5');(try clear w3');(try clear w4');(try clear bl);(try clear bd);(try clear bd2);(try clear bx);(try clear Hbb);(try clear hab);(try clear hbr);(try clear HL);(try clear HL1);(try clear HL2);(try clear hk);(try clear hd0);(try clear e1)
                        refine wp_region_below_seq ?_
                        repeat (first | go_big_quiet_step (fail) | quiet_step (fail))
                        refine wpQuiet_nil ?_
                        rintro _ ⟨pq, rfl⟩
                        have HR := Kp.mk PK.out.1
                        have HJ7 := Kp.mk (PK.out.2.1.below pq.h)
                        have HZ7 := Kp.mk ((pq.h.block _ (lt_of_block PK.out.2.2.1)).trans PK.out.2.2.1)
                        have HR7 := Kp.mk (Kd.R_below PK.out.2.2.2.1 pq.h)
                        have HSz := Kp.mk PK.out.2.2.2.2
                        clear Bv1 Bv2 Bv3 Be2 Be3 Be4 Bq0 Bq1 Bq2 Bq3 PK
                        have o0 := cells_top HJ7.out.z9 0 (.slice none 0 0) rfl;have r0 := cells_top HJ7.out.z8 0 (.slice none 0 0) rfl;have g0 := free_top HJ7.out.z8 0;have o1 := cells_top HJ7.out.z9 1 (.int .i64 0) rfl;have r1 := cells_top HJ7.out.z8 1 (.int .i64 0) rfl;have g1 := free_top HJ7.out.z8 1;have o2 := cells_top HJ7.out.z9 2 (.int .i64 0) rfl;have r2 := cells_top HJ7.out.z8 2 (.int .i64 0) rfl;have g2 := free_top HJ7.out.z8 2;have o3 := cells_top HJ7.out.z9 3 (.int .u64 0) rfl;have r3 := cells_top HJ7.out.z8 3 (.int .u64 0) rfl;have g3 := free_top HJ7.out.z8 3
                        have HZ := Jn.ret HJ7.out
                        (try simp only []); repeat (first | go_values | go_skip | go_guarded | go_step)
                        try simp only [Exit.inBlock, Exit.then]
                        refine @ret_ct ?P4245 ?fn4245 ?R4245 ?a4245 ?w4245 ?ty4245 (w.heap.size + 1 + 1) ?t4245 ?cs4245 ?fr4245 ?d4245 ?v4245 ?g1x4245 ?g2x4245 ?g3x4245 ?g4x4245 ?g5x4245 ?g6x4245 ?g7x4245 ?g8x4245 ?g9x4245
                        (case g1x4245 => exact rfl);(case g2x4245 => exact rfl);(case g3x4245 => exact rfl);(case g4x4245 => exact HZ.1);(case g5x4245 => exact Try.underlying27);(case g6x4245 => exact rfl);(case g7x4245 => kernel_rfl);(case g8x4245 => exact rfl)
                        exact ⟨10, [], 0, 0, 0, _, rfl, HR.out, Kd.R_nil _ _ _ _ _, HZ.2.2⟩
                      · have u0 : decide (enx < nx) = false := decide_eq_false k0
                        have G1 : Kp (laterB nx enx = true) := ⟨by unfold laterB; exact decide_eq_true (.inr (by omega))⟩
                        clear h0 k0
                        by_cases h1 : elg = 0
                        · have t1 : (elg != 0) = false := by simpa using h1
                          have G2 : Kp (laterB lg elg = true) := ⟨by simp [laterB, h1]⟩
                          clear h1
                          by_cases h2 : esq = 0
                          · have t2 : (esq != 0) = false := by simpa using h2
                            have G3 : Kp (sq ≤ outS sq esq) := ⟨by unfold outS; rw [if_neg (by omega)]; exact Int.le_refl _⟩
                            clear h2
                            by_cases hvo : VOk O a' b' s'
                            · have HRV : Kp (∀ W, Below (w5.alloc (.cells #[.slice A5 m5 c5, .int .i64 a', .int .i64 b', .int .u64 s'] 27)).heap.size (w5.alloc (.cells #[.slice A5 m5 c5, .int .i64 a', .int .i64 b', .int .u64 s'] 27)) W → Calls Try.prog 17 #[.agg #[.slice A5 m5 c5, .int .i64 a', .int .i64 b', .int .u64 s']] W (fun e w' => e = .returned (.bool true) ∧ Below W.heap.size W w')) := ⟨fun W hW => by
                                  have hcc := ref_version (c := c5) a' b' s' (show kRn.C W A5 O.length O from Kd.C_below (Kd.R_reads' HR6.out).2.2 hW) HByO.out
                                  rw [← Hm5.out] at hcc
                                  exact hcc.mono (fun e w' ⟨b, he, hb, hB⟩ => ⟨by rw [he, hb.2 hvo], hB⟩)⟩
                              have HR := Kp.mk (HGd.out ⟨G1.out, G2.out, G3.out, by rw [HO.out, Ha'.out, Hb'.out, Hs'.out] at hvo; exact hvo⟩)
                              clear hvo HBad HGd
                              have PK := Kp.mk (And.intro HR.out (And.intro HJ.out (And.intro HZ6.out (And.intro HR6.out HSz.out))))
                              (try clear HR);(try clear HJ);(try clear HZ6);(try clear HR6);(try clear HSz);(try clear H);(try clear H1);(try clear H2);(try clear HBy);(try clear HBy1);(try clear HVt);(try clear HEt);(try clear HN);(try clear HLF);(try clear HAll);(try clear HLo);(try clear HNt);(try clear HSR);(try clear HIs);(try clear HRow);(try clear HLe);(try clear HOut);(try clear HLO);(try clear HByO);(try clear HO);(try clear Hm5);(try clear Ha');(try clear Hb');(try clear Hs');(try clear G1);(try clear G2);(try clear G3);(try clear HBad);(try clear HGd);(try clear hn);(try clear hn1);(try clear hn2);(try clear hm);(try clear hm1);(try clear hm2);(try clear hsq);(try clear hesq);(try clear hc2);(try clear w1');(try clear w2');(try clear w5');(try clear w3');(try clear w4');(try clear bl);(try clear bd);(try clear bd2);(try clear bx);(try clear Hbb);(try clear hab);(try clear hbr);(try clear HL);(try clear HL1);(try clear HL2);(try clear hk);(try clear hd0);(try clear e1)
                              refine wp_region_below_seq ?_
                              repeat (first | go_big_quiet_step ((go_at_call 17; exact calls_blw (HRV.out _ (Blw.h _)))) | quiet_step ((go_at_call 17; exact calls_blw (HRV.out _ (Blw.h _)))))
                              refine wpQuiet_nil ?_
                              rintro _ ⟨pq, rfl⟩
                              have HR := Kp.mk PK.out.1
                              have HJ7 := Kp.mk (PK.out.2.1.below pq.h)
                              have HZ7 := Kp.mk ((pq.h.block _ (lt_of_block PK.out.2.2.1)).trans PK.out.2.2.1)
                              have HR7 := Kp.mk (Kd.R_below PK.out.2.2.2.1 pq.h)
                              have HSz := Kp.mk PK.out.2.2.2.2
                              clear Bv1 Bv2 Bv3 Be2 Be3 Be4 Bq0 Bq1 Bq2 Bq3 PK
                              clear HRV
                              have q0 := cells_top HZ7.out 0 (.slice A5 m5 c5) rfl;have q1 := cells_top HZ7.out 1 (.int .i64 a') rfl;have q2 := cells_top HZ7.out 2 (.int .i64 b') rfl;have q3 := cells_top HZ7.out 3 (.int .u64 s') rfl;have r0 := cells_top HJ7.out.z8 0 (.slice none 0 0) rfl;have g0 := free_top HJ7.out.z8 0;have r1 := cells_top HJ7.out.z8 1 (.int .i64 0) rfl;have g1 := free_top HJ7.out.z8 1;have r2 := cells_top HJ7.out.z8 2 (.int .i64 0) rfl;have g2 := free_top HJ7.out.z8 2;have r3 := cells_top HJ7.out.z8 3 (.int .u64 0) rfl;have g3 := free_top HJ7.out.z8 3
                              have HZ := laid4 HJ7.out.z8 (.slice A5 m5 c5) (.int .i64 a') (.int .i64 b') (.int .u64 s')
                              have HP := Kp.mk (put_R (Kd.R_lower HR7.out HSz.out) HJ7.out.z8 (.slice A5 m5 c5) (.int .i64 a') (.int .i64 b') (.int .u64 s'))
                              (try simp only []); repeat (first | go_values | go_skip | go_guarded | go_step)
                              try simp only [Exit.inBlock, Exit.then]
                              refine @ret_ct ?P4362 ?fn4362 ?R4362 ?a4362 ?w4362 ?ty4362 (w.heap.size + 1 + 1) ?t4362 ?cs4362 ?fr4362 ?d4362 ?v4362 ?g1x4362 ?g2x4362 ?g3x4362 ?g4x4362 ?g5x4362 ?g6x4362 ?g7x4362 ?g8x4362 ?g9x4362
                              (case g1x4362 => exact rfl);(case g2x4362 => exact rfl);(case g3x4362 => exact rfl);(case g4x4362 => exact HZ);(case g5x4362 => exact Try.underlying27);(case g6x4362 => exact rfl);(case g7x4362 => kernel_rfl);(case g8x4362 => exact rfl)
                              have ub : w.heap.size ≤ w.heap.size + 1 + 1 := Nat.le_add_right _ 2
                              exact ⟨0, O, a', b', s', _, rfl, HR.out, HP.out, (((HJ7.out.b.setCell ub _).setCell ub _).setCell ub _).setCell ub _⟩
                            · have HRV : Kp (∀ W, Below (w5.alloc (.cells #[.slice A5 m5 c5, .int .i64 a', .int .i64 b', .int .u64 s'] 27)).heap.size (w5.alloc (.cells #[.slice A5 m5 c5, .int .i64 a', .int .i64 b', .int .u64 s'] 27)) W → Calls Try.prog 17 #[.agg #[.slice A5 m5 c5, .int .i64 a', .int .i64 b', .int .u64 s']] W (fun e w' => e = .returned (.bool false) ∧ Below W.heap.size W w')) := ⟨fun W hW => by
                                  have hcc := ref_version (c := c5) a' b' s' (show kRn.C W A5 O.length O from Kd.C_below (Kd.R_reads' HR6.out).2.2 hW) HByO.out
                                  rw [← Hm5.out] at hcc
                                  exact hcc.mono (fun e w' ⟨b, he, hb, hB⟩ => ⟨by rw [he]; cases b with | false => rfl | true => exact absurd (hb.1 rfl) hvo, hB⟩)⟩
                              have HR := Kp.mk (HBad.out (fun hg => by have h9 := hg.2.2.2; rw [← HO.out, ← Ha'.out, ← Hb'.out, ← Hs'.out] at h9; exact hvo h9))
                              clear hvo HBad HGd
                              have PK := Kp.mk (And.intro HR.out (And.intro HJ.out (And.intro HZ6.out (And.intro HR6.out HSz.out))))
                              (try clear HR);(try clear HJ);(try clear HZ6);(try clear HR6);(try clear HSz);(try clear H);(try clear H1);(try clear H2);(try clear HBy);(try clear HBy1);(try clear HVt);(try clear HEt);(try clear HN);(try clear HLF);(try clear HAll);(try clear HLo);(try clear HNt);(try clear HSR);(try clear HIs);(try clear HRow);(try clear HLe);(try clear HOut);(try clear HLO);(try clear HByO);(try clear HO);(try clear Hm5);(try clear Ha');(try clear Hb');(try clear Hs');(try clear G1);(try clear G2);(try clear G3);(try clear HBad);(try clear HGd);(try clear hn);(try clear hn1);(try clear hn2);(try clear hm);(try clear hm1);(try clear hm2);(try clear hsq);(try clear hesq);(try clear hc2);(try clear w1');(try clear w2');(try clear w5');(try clear w3');(try clear w4');(try clear bl);(try clear bd);(try clear bd2);(try clear bx);(try clear Hbb);(try clear hab);(try clear hbr);(try clear HL);(try clear HL1);(try clear HL2);(try clear hk);(try clear hd0);(try clear e1)
                              refine wp_region_below_seq ?_
                              repeat (first | go_big_quiet_step ((go_at_call 17; exact calls_blw (HRV.out _ (Blw.h _)))) | quiet_step ((go_at_call 17; exact calls_blw (HRV.out _ (Blw.h _)))))
                              refine wpQuiet_nil ?_
                              rintro _ ⟨pq, rfl⟩
                              have HR := Kp.mk PK.out.1
                              have HJ7 := Kp.mk (PK.out.2.1.below pq.h)
                              have HZ7 := Kp.mk ((pq.h.block _ (lt_of_block PK.out.2.2.1)).trans PK.out.2.2.1)
                              have HR7 := Kp.mk (Kd.R_below PK.out.2.2.2.1 pq.h)
                              have HSz := Kp.mk PK.out.2.2.2.2
                              clear Bv1 Bv2 Bv3 Be2 Be3 Be4 Bq0 Bq1 Bq2 Bq3 PK
                              clear HRV
                              have o0 := cells_top HJ7.out.z9 0 (.slice none 0 0) rfl;have r0 := cells_top HJ7.out.z8 0 (.slice none 0 0) rfl;have g0 := free_top HJ7.out.z8 0;have o1 := cells_top HJ7.out.z9 1 (.int .i64 0) rfl;have r1 := cells_top HJ7.out.z8 1 (.int .i64 0) rfl;have g1 := free_top HJ7.out.z8 1;have o2 := cells_top HJ7.out.z9 2 (.int .i64 0) rfl;have r2 := cells_top HJ7.out.z8 2 (.int .i64 0) rfl;have g2 := free_top HJ7.out.z8 2;have o3 := cells_top HJ7.out.z9 3 (.int .u64 0) rfl;have r3 := cells_top HJ7.out.z8 3 (.int .u64 0) rfl;have g3 := free_top HJ7.out.z8 3
                              have HZ := Jn.ret HJ7.out
                              (try simp only []); repeat (first | go_values | go_skip | go_guarded | go_step)
                              try simp only [Exit.inBlock, Exit.then]
                              refine @ret_ct ?P4467 ?fn4467 ?R4467 ?a4467 ?w4467 ?ty4467 (w.heap.size + 1 + 1) ?t4467 ?cs4467 ?fr4467 ?d4467 ?v4467 ?g1x4467 ?g2x4467 ?g3x4467 ?g4x4467 ?g5x4467 ?g6x4467 ?g7x4467 ?g8x4467 ?g9x4467
                              (case g1x4467 => exact rfl);(case g2x4467 => exact rfl);(case g3x4467 => exact rfl);(case g4x4467 => exact HZ.1);(case g5x4467 => exact Try.underlying27);(case g6x4467 => exact rfl);(case g7x4467 => kernel_rfl);(case g8x4467 => exact rfl)
                              exact ⟨10, [], 0, 0, 0, _, rfl, HR.out, Kd.R_nil _ _ _ _ _, HZ.2.2⟩
                          · have t2 : (esq != 0) = true := by simpa using h2
                            by_cases k2 : esq < sq
                            · have u2 : decide (esq < sq) = true := decide_eq_true k2
                              have HR := Kp.mk (HBad.out (fun hg => by have h9 := hg.2.2.1; unfold outS at h9; rw [if_pos (by omega)] at h9; omega))
                              clear h2 k2 HBad HGd
                              have PK := Kp.mk (And.intro HR.out (And.intro HJ.out (And.intro HZ6.out (And.intro HR6.out HSz.out))))
                              (try clear HR);(try clear HJ);(try clear HZ6);(try clear HR6);(try clear HSz);(try clear H);(try clear H1);(try clear H2);(try clear HBy);(try clear HBy1);(try clear HVt);(try clear HEt);(try clear HN);(try clear HLF);(try clear HAll);(try clear HLo);(try clear HNt);(try clear HSR);(try clear HIs);(try clear HRow);(try clear HLe);(try clear HOut);(try clear HLO);(try clear HByO);(try clear HO);(try clear Hm5);(try clear Ha');(try clear Hb');(try clear Hs');(try clear G1);(try clear G2);(try clear G3);(try clear HBad);(try clear HGd);(try clear hn);(try clear hn1);(try clear hn2);(try clear hm);(try clear hm1);(try clear hm2);(try clear hsq);(try clear hesq);(try clear hc2);(try clear w1');(try clear w2');(try clear w5');(try clear w3');(try clear w4');(try clear bl);(try clear bd);(try clear bd2);(try clear bx);(try clear Hbb);(try clear hab);(try clear hbr);(try clear HL);(try clear HL1);(try clear HL2);(try clear hk);(try clear hd0);(try clear e1)
                              refine wp_region_below_seq ?_
                              repeat (first | go_big_quiet_step (fail) | quiet_step (fail))
                              refine wpQuiet_nil ?_
                              rintro _ ⟨pq, rfl⟩
                              have HR := Kp.mk PK.out.1
                              have HJ7 := Kp.mk (PK.out.2.1.below pq.h)
                              have HZ7 := Kp.mk ((pq.h.block _ (lt_of_block PK.out.2.2.1)).trans PK.out.2.2.1)
                              have HR7 := Kp.mk (Kd.R_below PK.out.2.2.2.1 pq.h)
                              have HSz := Kp.mk PK.out.2.2.2.2
                              clear Bv1 Bv2 Bv3 Be2 Be3 Be4 Bq0 Bq1 Bq2 Bq3 PK
                              have o0 := cells_top HJ7.out.z9 0 (.slice none 0 0) rfl;have r0 := cells_top HJ7.out.z8 0 (.slice none 0 0) rfl;have g0 := free_top HJ7.out.z8 0;have o1 := cells_top HJ7.out.z9 1 (.int .i64 0) rfl;have r1 := cells_top HJ7.out.z8 1 (.int .i64 0) rfl;have g1 := free_top HJ7.out.z8 1;have o2 := cells_top HJ7.out.z9 2 (.int .i64 0) rfl;have r2 := cells_top HJ7.out.z8 2 (.int .i64 0) rfl;have g2 := free_top HJ7.out.z8 2;have o3 := cells_top HJ7.out.z9 3 (.int .u64 0) rfl;have r3 := cells_top HJ7.out.z8 3 (.int .u64 0) rfl;have g3 := free_top HJ7.out.z8 3
                              have HZ := Jn.ret HJ7.out
                              (try simp only []); repeat (first | go_values | go_skip | go_guarded | go_step)
                              try simp only [Exit.inBlock, Exit.then]
                              refine @ret_ct ?P4569 ?fn4569 ?R4569 ?a4569 ?w4569 ?ty4569 (w.heap.size + 1 + 1) ?t4569 ?cs4569 ?fr4569 ?d4569 ?v4569 ?g1x4569 ?g2x4569 ?g3x4569 ?g4x4569 ?g5x4569 ?g6x4569 ?g7x4569 ?g8x4569 ?g9x4569
                              (case g1x4569 => exact rfl);(case g2x4569 => exact rfl);(case g3x4569 => exact rfl);(case g4x4569 => exact HZ.1);(case g5x4569 => exact Try.underlying27);(case g6x4569 => exact rfl);(case g7x4569 => kernel_rfl);(case g8x4569 => exact rfl)
                              exact ⟨10, [], 0, 0, 0, _, rfl, HR.out, Kd.R_nil _ _ _ _ _, HZ.2.2⟩
                            · have u2 : decide (esq < sq) = false := decide_eq_false k2
                              have G3 : Kp (sq ≤ outS sq esq) := ⟨by unfold outS; rw [if_pos (by omega)]; omega⟩
                              clear h2 k2
                              by_cases hvo : VOk O a' b' s'
                              · have HRV : Kp (∀ W, Below (w5.alloc (.cells #[.slice A5 m5 c5, .int .i64 a', .int .i64 b', .int .u64 s'] 27)).heap.size (w5.alloc (.cells #[.slice A5 m5 c5, .int .i64 a', .int .i64 b', .int .u64 s'] 27)) W → Calls Try.prog 17 #[.agg #[.slice A5 m5 c5, .int .i64 a', .int .i64 b', .int .u64 s']] W (fun e w' => e = .returned (.bool true) ∧ Below W.heap.size W w')) := ⟨fun W hW => by
                                    have hcc := ref_version (c := c5) a' b' s' (show kRn.C W A5 O.length O from Kd.C_below (Kd.R_reads' HR6.out).2.2 hW) HByO.out
                                    rw [← Hm5.out] at hcc
                                    exact hcc.mono (fun e w' ⟨b, he, hb, hB⟩ => ⟨by rw [he, hb.2 hvo], hB⟩)⟩
                                have HR := Kp.mk (HGd.out ⟨G1.out, G2.out, G3.out, by rw [HO.out, Ha'.out, Hb'.out, Hs'.out] at hvo; exact hvo⟩)
                                clear hvo HBad HGd
                                have PK := Kp.mk (And.intro HR.out (And.intro HJ.out (And.intro HZ6.out (And.intro HR6.out HSz.out))))
                                (try clear HR);(try clear HJ);(try clear HZ6);(try clear HR6);(try clear HSz);(try clear H);(try clear H1);(try clear H2);(try clear HBy);(try clear HBy1);(try clear HVt);(try clear HEt);(try clear HN);(try clear HLF);(try clear HAll);(try clear HLo);(try clear HNt);(try clear HSR);(try clear HIs);(try clear HRow);(try clear HLe);(try clear HOut);(try clear HLO);(try clear HByO);(try clear HO);(try clear Hm5);(try clear Ha');(try clear Hb');(try clear Hs');(try clear G1);(try clear G2);(try clear G3);(try clear HBad);(try clear HGd);(try clear hn);(try clear hn1);(try clear hn2);(try clear hm);(try clear hm1);(try clear hm2);(try clear hsq);(try clear hesq);(try clear hc2);(try clear w1');(try clear w2');(try clear w5');(try clear w3');(try clear w4');(try clear bl);(try clear bd);(try clear bd2);(try clear bx);(try clear Hbb);(try clear hab);(try clear hbr);(try clear HL);(try clear HL1);(try clear HL2);(try clear hk);(try clear hd0);(try clear e1)
                                refine wp_region_below_seq ?_
                                repeat (first | go_big_quiet_step ((go_at_call 17; exact calls_blw (HRV.out _ (Blw.h _)))) | quiet_step ((go_at_call 17; exact calls_blw (HRV.out _ (Blw.h _)))))
                                refine wpQuiet_nil ?_
                                rintro _ ⟨pq, rfl⟩
                                have HR := Kp.mk PK.out.1
                                have HJ7 := Kp.mk (PK.out.2.1.below pq.h)
                                have HZ7 := Kp.mk ((pq.h.block _ (lt_of_block PK.out.2.2.1)).trans PK.out.2.2.1)
                                have HR7 := Kp.mk (Kd.R_below PK.out.2.2.2.1 pq.h)
                                have HSz := Kp.mk PK.out.2.2.2.2
                                clear Bv1 Bv2 Bv3 Be2 Be3 Be4 Bq0 Bq1 Bq2 Bq3 PK
                                clear HRV
                                have q0 := cells_top HZ7.out 0 (.slice A5 m5 c5) rfl;have q1 := cells_top HZ7.out 1 (.int .i64 a') rfl;have q2 := cells_top HZ7.out 2 (.int .i64 b') rfl;have q3 := cells_top HZ7.out 3 (.int .u64 s') rfl;have r0 := cells_top HJ7.out.z8 0 (.slice none 0 0) rfl;have g0 := free_top HJ7.out.z8 0;have r1 := cells_top HJ7.out.z8 1 (.int .i64 0) rfl;have g1 := free_top HJ7.out.z8 1;have r2 := cells_top HJ7.out.z8 2 (.int .i64 0) rfl;have g2 := free_top HJ7.out.z8 2;have r3 := cells_top HJ7.out.z8 3 (.int .u64 0) rfl;have g3 := free_top HJ7.out.z8 3
                                have HZ := laid4 HJ7.out.z8 (.slice A5 m5 c5) (.int .i64 a') (.int .i64 b') (.int .u64 s')
                                have HP := Kp.mk (put_R (Kd.R_lower HR7.out HSz.out) HJ7.out.z8 (.slice A5 m5 c5) (.int .i64 a') (.int .i64 b') (.int .u64 s'))
                                (try simp only []); repeat (first | go_values | go_skip | go_guarded | go_step)
                                try simp only [Exit.inBlock, Exit.then]
                                refine @ret_ct ?P4678 ?fn4678 ?R4678 ?a4678 ?w4678 ?ty4678 (w.heap.size + 1 + 1) ?t4678 ?cs4678 ?fr4678 ?d4678 ?v4678 ?g1x4678 ?g2x4678 ?g3x4678 ?g4x4678 ?g5x4678 ?g6x4678 ?g7x4678 ?g8x4678 ?g9x4678
                                (case g1x4678 => exact rfl);(case g2x4678 => exact rfl);(case g3x4678 => exact rfl);(case g4x4678 => exact HZ);(case g5x4678 => exact Try.underlying27);(case g6x4678 => exact rfl);(case g7x4678 => kernel_rfl);(case g8x4678 => exact rfl)
                                have ub : w.heap.size ≤ w.heap.size + 1 + 1 := Nat.le_add_right _ 2
                                exact ⟨0, O, a', b', s', _, rfl, HR.out, HP.out, (((HJ7.out.b.setCell ub _).setCell ub _).setCell ub _).setCell ub _⟩
                              · have HRV : Kp (∀ W, Below (w5.alloc (.cells #[.slice A5 m5 c5, .int .i64 a', .int .i64 b', .int .u64 s'] 27)).heap.size (w5.alloc (.cells #[.slice A5 m5 c5, .int .i64 a', .int .i64 b', .int .u64 s'] 27)) W → Calls Try.prog 17 #[.agg #[.slice A5 m5 c5, .int .i64 a', .int .i64 b', .int .u64 s']] W (fun e w' => e = .returned (.bool false) ∧ Below W.heap.size W w')) := ⟨fun W hW => by
                                    have hcc := ref_version (c := c5) a' b' s' (show kRn.C W A5 O.length O from Kd.C_below (Kd.R_reads' HR6.out).2.2 hW) HByO.out
                                    rw [← Hm5.out] at hcc
                                    exact hcc.mono (fun e w' ⟨b, he, hb, hB⟩ => ⟨by rw [he]; cases b with | false => rfl | true => exact absurd (hb.1 rfl) hvo, hB⟩)⟩
                                have HR := Kp.mk (HBad.out (fun hg => by have h9 := hg.2.2.2; rw [← HO.out, ← Ha'.out, ← Hb'.out, ← Hs'.out] at h9; exact hvo h9))
                                clear hvo HBad HGd
                                have PK := Kp.mk (And.intro HR.out (And.intro HJ.out (And.intro HZ6.out (And.intro HR6.out HSz.out))))
                                (try clear HR);(try clear HJ);(try clear HZ6);(try clear HR6);(try clear HSz);(try clear H);(try clear H1);(try clear H2);(try clear HBy);(try clear HBy1);(try clear HVt);(try clear HEt);(try clear HN);(try clear HLF);(try clear HAll);(try clear HLo);(try clear HNt);(try clear HSR);(try clear HIs);(try clear HRow);(try clear HLe);(try clear HOut);(try clear HLO);(try clear HByO);(try clear HO);(try clear Hm5);(try clear Ha');(try clear Hb');(try clear Hs');(try clear G1);(try clear G2);(try clear G3);(try clear HBad);(try clear HGd);(try clear hn);(try clear hn1);(try clear hn2);(try clear hm);(try clear hm1);(try clear hm2);(try clear hsq);(try clear hesq);(try clear hc2);(try clear w1');(try clear w2');(try clear w5');(try clear w3');(try clear w4');(try clear bl);(try clear bd);(try clear bd2);(try clear bx);(try clear Hbb);(try clear hab);(try clear hbr);(try clear HL);(try clear HL1);(try clear HL2);(try clear hk);(try clear hd0);(try clear e1)
                                refine wp_region_below_seq ?_
                                repeat (first | go_big_quiet_step ((go_at_call 17; exact calls_blw (HRV.out _ (Blw.h _)))) | quiet_step ((go_at_call 17; exact calls_blw (HRV.out _ (Blw.h _)))))
                                refine wpQuiet_nil ?_
                                rintro _ ⟨pq, rfl⟩
                                have HR := Kp.mk PK.out.1
                                have HJ7 := Kp.mk (PK.out.2.1.below pq.h)
                                have HZ7 := Kp.mk ((pq.h.block _ (lt_of_block PK.out.2.2.1)).trans PK.out.2.2.1)
                                have HR7 := Kp.mk (Kd.R_below PK.out.2.2.2.1 pq.h)
                                have HSz := Kp.mk PK.out.2.2.2.2
                                clear Bv1 Bv2 Bv3 Be2 Be3 Be4 Bq0 Bq1 Bq2 Bq3 PK
                                clear HRV
                                have o0 := cells_top HJ7.out.z9 0 (.slice none 0 0) rfl;have r0 := cells_top HJ7.out.z8 0 (.slice none 0 0) rfl;have g0 := free_top HJ7.out.z8 0;have o1 := cells_top HJ7.out.z9 1 (.int .i64 0) rfl;have r1 := cells_top HJ7.out.z8 1 (.int .i64 0) rfl;have g1 := free_top HJ7.out.z8 1;have o2 := cells_top HJ7.out.z9 2 (.int .i64 0) rfl;have r2 := cells_top HJ7.out.z8 2 (.int .i64 0) rfl;have g2 := free_top HJ7.out.z8 2;have o3 := cells_top HJ7.out.z9 3 (.int .u64 0) rfl;have r3 := cells_top HJ7.out.z8 3 (.int .u64 0) rfl;have g3 := free_top HJ7.out.z8 3
                                have HZ := Jn.ret HJ7.out
                                (try simp only []); repeat (first | go_values | go_skip | go_guarded | go_step)
                                try simp only [Exit.inBlock, Exit.then]
                                refine @ret_ct ?P4783 ?fn4783 ?R4783 ?a4783 ?w4783 ?ty4783 (w.heap.size + 1 + 1) ?t4783 ?cs4783 ?fr4783 ?d4783 ?v4783 ?g1x4783 ?g2x4783 ?g3x4783 ?g4x4783 ?g5x4783 ?g6x4783 ?g7x4783 ?g8x4783 ?g9x4783
                                (case g1x4783 => exact rfl);(case g2x4783 => exact rfl);(case g3x4783 => exact rfl);(case g4x4783 => exact HZ.1);(case g5x4783 => exact Try.underlying27);(case g6x4783 => exact rfl);(case g7x4783 => kernel_rfl);(case g8x4783 => exact rfl)
                                exact ⟨10, [], 0, 0, 0, _, rfl, HR.out, Kd.R_nil _ _ _ _ _, HZ.2.2⟩
                        · have t1 : (elg != 0) = true := by simpa using h1
                          by_cases k1 : elg < lg
                          · have u1 : decide (elg < lg) = true := decide_eq_true k1
                            have HR := Kp.mk (HBad.out (fun hg => by have h9 := hg.2.1; unfold laterB at h9; have := of_decide_eq_true h9; omega))
                            clear h1 k1 HBad HGd
                            have PK := Kp.mk (And.intro HR.out (And.intro HJ.out (And.intro HZ6.out (And.intro HR6.out HSz.out))))
                            (try clear HR);(try clear HJ);(try clear HZ6);(try clear HR6);(try clear HSz);(try clear H);(try clear H1);(try clear H2);(try clear HBy);(try clear HBy1);(try clear HVt);(try clear HEt);(try clear HN);(try clear HLF);(try clear HAll);(try clear HLo);(try clear HNt);(try clear HSR);(try clear HIs);(try clear HRow);(try clear HLe);(try clear HOut);(try clear HLO);(try clear HByO);(try clear HO);(try clear Hm5);(try clear Ha');(try clear Hb');(try clear Hs');(try clear G1);(try clear G2);(try clear G3);(try clear HBad);(try clear HGd);(try clear hn);(try clear hn1);(try clear hn2);(try clear hm);(try clear hm1);(try clear hm2);(try clear hsq);(try clear hesq);(try clear hc2);(try clear w1');(try clear w2');(try clear w5');(try clear w3');(try clear w4');(try clear bl);(try clear bd);(try clear bd2);(try clear bx);(try clear Hbb);(try clear hab);(try clear hbr);(try clear HL);(try clear HL1);(try clear HL2);(try clear hk);(try clear hd0);(try clear e1)
                            refine wp_region_below_seq ?_
                            repeat (first | go_big_quiet_step (fail) | quiet_step (fail))
                            refine wpQuiet_nil ?_
                            rintro _ ⟨pq, rfl⟩
                            have HR := Kp.mk PK.out.1
                            have HJ7 := Kp.mk (PK.out.2.1.below pq.h)
                            have HZ7 := Kp.mk ((pq.h.block _ (lt_of_block PK.out.2.2.1)).trans PK.out.2.2.1)
                            have HR7 := Kp.mk (Kd.R_below PK.out.2.2.2.1 pq.h)
                            have HSz := Kp.mk PK.out.2.2.2.2
                            clear Bv1 Bv2 Bv3 Be2 Be3 Be4 Bq0 Bq1 Bq2 Bq3 PK
                            have o0 := cells_top HJ7.out.z9 0 (.slice none 0 0) rfl;have r0 := cells_top HJ7.out.z8 0 (.slice none 0 0) rfl;have g0 := free_top HJ7.out.z8 0;have o1 := cells_top HJ7.out.z9 1 (.int .i64 0) rfl;have r1 := cells_top HJ7.out.z8 1 (.int .i64 0) rfl;have g1 := free_top HJ7.out.z8 1;have o2 := cells_top HJ7.out.z9 2 (.int .i64 0) rfl;have r2 := cells_top HJ7.out.z8 2 (.int .i64 0) rfl;have g2 := free_top HJ7.out.z8 2;have o3 := cells_top HJ7.out.z9 3 (.int .u64 0) rfl;have r3 := cells_top HJ7.out.z8 3 (.int .u64 0) rfl;have g3 := free_top HJ7.out.z8 3
                            have HZ := Jn.ret HJ7.out
                            (try simp only []); repeat (first | go_values | go_skip | go_guarded | go_step)
                            try simp only [Exit.inBlock, Exit.then]
                            refine @ret_ct ?P4885 ?fn4885 ?R4885 ?a4885 ?w4885 ?ty4885 (w.heap.size + 1 + 1) ?t4885 ?cs4885 ?fr4885 ?d4885 ?v4885 ?g1x4885 ?g2x4885 ?g3x4885 ?g4x4885 ?g5x4885 ?g6x4885 ?g7x4885 ?g8x4885 ?g9x4885
                            (case g1x4885 => exact rfl);(case g2x4885 => exact rfl);(case g3x4885 => exact rfl);(case g4x4885 => exact HZ.1);(case g5x4885 => exact Try.underlying27);(case g6x4885 => exact rfl);(case g7x4885 => kernel_rfl);(case g8x4885 => exact rfl)
                            exact ⟨10, [], 0, 0, 0, _, rfl, HR.out, Kd.R_nil _ _ _ _ _, HZ.2.2⟩
                          · have u1 : decide (elg < lg) = false := decide_eq_false k1
                            have G2 : Kp (laterB lg elg = true) := ⟨by unfold laterB; exact decide_eq_true (.inr (by omega))⟩
                            clear h1 k1
                            by_cases h2 : esq = 0
                            · have t2 : (esq != 0) = false := by simpa using h2
                              have G3 : Kp (sq ≤ outS sq esq) := ⟨by unfold outS; rw [if_neg (by omega)]; exact Int.le_refl _⟩
                              clear h2
                              by_cases hvo : VOk O a' b' s'
                              · have HRV : Kp (∀ W, Below (w5.alloc (.cells #[.slice A5 m5 c5, .int .i64 a', .int .i64 b', .int .u64 s'] 27)).heap.size (w5.alloc (.cells #[.slice A5 m5 c5, .int .i64 a', .int .i64 b', .int .u64 s'] 27)) W → Calls Try.prog 17 #[.agg #[.slice A5 m5 c5, .int .i64 a', .int .i64 b', .int .u64 s']] W (fun e w' => e = .returned (.bool true) ∧ Below W.heap.size W w')) := ⟨fun W hW => by
                                    have hcc := ref_version (c := c5) a' b' s' (show kRn.C W A5 O.length O from Kd.C_below (Kd.R_reads' HR6.out).2.2 hW) HByO.out
                                    rw [← Hm5.out] at hcc
                                    exact hcc.mono (fun e w' ⟨b, he, hb, hB⟩ => ⟨by rw [he, hb.2 hvo], hB⟩)⟩
                                have HR := Kp.mk (HGd.out ⟨G1.out, G2.out, G3.out, by rw [HO.out, Ha'.out, Hb'.out, Hs'.out] at hvo; exact hvo⟩)
                                clear hvo HBad HGd
                                have PK := Kp.mk (And.intro HR.out (And.intro HJ.out (And.intro HZ6.out (And.intro HR6.out HSz.out))))
                                (try clear HR);(try clear HJ);(try clear HZ6);(try clear HR6);(try clear HSz);(try clear H);(try clear H1);(try clear H2);(try clear HBy);(try clear HBy1);(try clear HVt);(try clear HEt);(try clear HN);(try clear HLF);(try clear HAll);(try clear HLo);(try clear HNt);(try clear HSR);(try clear HIs);(try clear HRow);(try clear HLe);(try clear HOut);(try clear HLO);(try clear HByO);(try clear HO);(try clear Hm5);(try clear Ha');(try clear Hb');(try clear Hs');(try clear G1);(try clear G2);(try clear G3);(try clear HBad);(try clear HGd);(try clear hn);(try clear hn1);(try clear hn2);(try clear hm);(try clear hm1);(try clear hm2);(try clear hsq);(try clear hesq);(try clear hc2);(try clear w1');(try clear w2');(try clear w5');(try clear w3');(try clear w4');(try clear bl);(try clear bd);(try clear bd2);(try clear bx);(try clear Hbb);(try clear hab);(try clear hbr);(try clear HL);(try clear HL1);(try clear HL2);(try clear hk);(try clear hd0);(try clear e1)
                                refine wp_region_below_seq ?_
                                repeat (first | go_big_quiet_step ((go_at_call 17; exact calls_blw (HRV.out _ (Blw.h _)))) | quiet_step ((go_at_call 17; exact calls_blw (HRV.out _ (Blw.h _)))))
                                refine wpQuiet_nil ?_
                                rintro _ ⟨pq, rfl⟩
                                have HR := Kp.mk PK.out.1
                                have HJ7 := Kp.mk (PK.out.2.1.below pq.h)
                                have HZ7 := Kp.mk ((pq.h.block _ (lt_of_block PK.out.2.2.1)).trans PK.out.2.2.1)
                                have HR7 := Kp.mk (Kd.R_below PK.out.2.2.2.1 pq.h)
                                have HSz := Kp.mk PK.out.2.2.2.2
                                clear Bv1 Bv2 Bv3 Be2 Be3 Be4 Bq0 Bq1 Bq2 Bq3 PK
                                clear HRV
                                have q0 := cells_top HZ7.out 0 (.slice A5 m5 c5) rfl;have q1 := cells_top HZ7.out 1 (.int .i64 a') rfl;have q2 := cells_top HZ7.out 2 (.int .i64 b') rfl;have q3 := cells_top HZ7.out 3 (.int .u64 s') rfl;have r0 := cells_top HJ7.out.z8 0 (.slice none 0 0) rfl;have g0 := free_top HJ7.out.z8 0;have r1 := cells_top HJ7.out.z8 1 (.int .i64 0) rfl;have g1 := free_top HJ7.out.z8 1;have r2 := cells_top HJ7.out.z8 2 (.int .i64 0) rfl;have g2 := free_top HJ7.out.z8 2;have r3 := cells_top HJ7.out.z8 3 (.int .u64 0) rfl;have g3 := free_top HJ7.out.z8 3
                                have HZ := laid4 HJ7.out.z8 (.slice A5 m5 c5) (.int .i64 a') (.int .i64 b') (.int .u64 s')
                                have HP := Kp.mk (put_R (Kd.R_lower HR7.out HSz.out) HJ7.out.z8 (.slice A5 m5 c5) (.int .i64 a') (.int .i64 b') (.int .u64 s'))
                                (try simp only []); repeat (first | go_values | go_skip | go_guarded | go_step)
                                try simp only [Exit.inBlock, Exit.then]
                                refine @ret_ct ?P4998 ?fn4998 ?R4998 ?a4998 ?w4998 ?ty4998 (w.heap.size + 1 + 1) ?t4998 ?cs4998 ?fr4998 ?d4998 ?v4998 ?g1x4998 ?g2x4998 ?g3x4998 ?g4x4998 ?g5x4998 ?g6x4998 ?g7x4998 ?g8x4998 ?g9x4998
                                (case g1x4998 => exact rfl);(case g2x4998 => exact rfl);(case g3x4998 => exact rfl);(case g4x4998 => exact HZ);(case g5x4998 => exact Try.underlying27);(case g6x4998 => exact rfl);(case g7x4998 => kernel_rfl);(case g8x4998 => exact rfl)
                                have ub : w.heap.size ≤ w.heap.size + 1 + 1 := Nat.le_add_right _ 2
                                exact ⟨0, O, a', b', s', _, rfl, HR.out, HP.out, (((HJ7.out.b.setCell ub _).setCell ub _).setCell ub _).setCell ub _⟩
                              · have HRV : Kp (∀ W, Below (w5.alloc (.cells #[.slice A5 m5 c5, .int .i64 a', .int .i64 b', .int .u64 s'] 27)).heap.size (w5.alloc (.cells #[.slice A5 m5 c5, .int .i64 a', .int .i64 b', .int .u64 s'] 27)) W → Calls Try.prog 17 #[.agg #[.slice A5 m5 c5, .int .i64 a', .int .i64 b', .int .u64 s']] W (fun e w' => e = .returned (.bool false) ∧ Below W.heap.size W w')) := ⟨fun W hW => by
                                    have hcc := ref_version (c := c5) a' b' s' (show kRn.C W A5 O.length O from Kd.C_below (Kd.R_reads' HR6.out).2.2 hW) HByO.out
                                    rw [← Hm5.out] at hcc
                                    exact hcc.mono (fun e w' ⟨b, he, hb, hB⟩ => ⟨by rw [he]; cases b with | false => rfl | true => exact absurd (hb.1 rfl) hvo, hB⟩)⟩
                                have HR := Kp.mk (HBad.out (fun hg => by have h9 := hg.2.2.2; rw [← HO.out, ← Ha'.out, ← Hb'.out, ← Hs'.out] at h9; exact hvo h9))
                                clear hvo HBad HGd
                                have PK := Kp.mk (And.intro HR.out (And.intro HJ.out (And.intro HZ6.out (And.intro HR6.out HSz.out))))
                                (try clear HR);(try clear HJ);(try clear HZ6);(try clear HR6);(try clear HSz);(try clear H);(try clear H1);(try clear H2);(try clear HBy);(try clear HBy1);(try clear HVt);(try clear HEt);(try clear HN);(try clear HLF);(try clear HAll);(try clear HLo);(try clear HNt);(try clear HSR);(try clear HIs);(try clear HRow);(try clear HLe);(try clear HOut);(try clear HLO);(try clear HByO);(try clear HO);(try clear Hm5);(try clear Ha');(try clear Hb');(try clear Hs');(try clear G1);(try clear G2);(try clear G3);(try clear HBad);(try clear HGd);(try clear hn);(try clear hn1);(try clear hn2);(try clear hm);(try clear hm1);(try clear hm2);(try clear hsq);(try clear hesq);(try clear hc2);(try clear w1');(try clear w2');(try clear w5');(try clear w3');(try clear w4');(try clear bl);(try clear bd);(try clear bd2);(try clear bx);(try clear Hbb);(try clear hab);(try clear hbr);(try clear HL);(try clear HL1);(try clear HL2);(try clear hk);(try clear hd0);(try clear e1)
                                refine wp_region_below_seq ?_
                                repeat (first | go_big_quiet_step ((go_at_call 17; exact calls_blw (HRV.out _ (Blw.h _)))) | quiet_step ((go_at_call 17; exact calls_blw (HRV.out _ (Blw.h _)))))
                                refine wpQuiet_nil ?_
                                rintro _ ⟨pq, rfl⟩
                                have HR := Kp.mk PK.out.1
                                have HJ7 := Kp.mk (PK.out.2.1.below pq.h)
                                have HZ7 := Kp.mk ((pq.h.block _ (lt_of_block PK.out.2.2.1)).trans PK.out.2.2.1)
                                have HR7 := Kp.mk (Kd.R_below PK.out.2.2.2.1 pq.h)
                                have HSz := Kp.mk PK.out.2.2.2.2
                                clear Bv1 Bv2 Bv3 Be2 Be3 Be4 Bq0 Bq1 Bq2 Bq3 PK
                                clear HRV
                                have o0 := cells_top HJ7.out.z9 0 (.slice none 0 0) rfl;have r0 := cells_top HJ7.out.z8 0 (.slice none 0 0) rfl;have g0 := free_top HJ7.out.z8 0;have o1 := cells_top HJ7.out.z9 1 (.int .i64 0) rfl;have r1 := cells_top HJ7.out.z8 1 (.int .i64 0) rfl;have g1 := free_top HJ7.out.z8 1;have o2 := cells_top HJ7.out.z9 2 (.int .i64 0) rfl;have r2 := cells_top HJ7.out.z8 2 (.int .i64 0) rfl;have g2 := free_top HJ7.out.z8 2;have o3 := cells_top HJ7.out.z9 3 (.int .u64 0) rfl;have r3 := cells_top HJ7.out.z8 3 (.int .u64 0) rfl;have g3 := free_top HJ7.out.z8 3
                                have HZ := Jn.ret HJ7.out
                                (try simp only []); repeat (first | go_values | go_skip | go_guarded | go_step)
                                try simp only [Exit.inBlock, Exit.then]
                                refine @ret_ct ?P5103 ?fn5103 ?R5103 ?a5103 ?w5103 ?ty5103 (w.heap.size + 1 + 1) ?t5103 ?cs5103 ?fr5103 ?d5103 ?v5103 ?g1x5103 ?g2x5103 ?g3x5103 ?g4x5103 ?g5x5103 ?g6x5103 ?g7x5103 ?g8x5103 ?g9x5103
                                (case g1x5103 => exact rfl);(case g2x5103 => exact rfl);(case g3x5103 => exact rfl);(case g4x5103 => exact HZ.1);(case g5x5103 => exact Try.underlying27);(case g6x5103 => exact rfl);(case g7x5103 => kernel_rfl);(case g8x5103 => exact rfl)
                                exact ⟨10, [], 0, 0, 0, _, rfl, HR.out, Kd.R_nil _ _ _ _ _, HZ.2.2⟩
                            · have t2 : (esq != 0) = true := by simpa using h2
                              by_cases k2 : esq < sq
                              · have u2 : decide (esq < sq) = true := decide_eq_true k2
                                have HR := Kp.mk (HBad.out (fun hg => by have h9 := hg.2.2.1; unfold outS at h9; rw [if_pos (by omega)] at h9; omega))
                                clear h2 k2 HBad HGd
                                have PK := Kp.mk (And.intro HR.out (And.intro HJ.out (And.intro HZ6.out (And.intro HR6.out HSz.out))))
                                (try clear HR);(try clear HJ);(try clear HZ6);(try clear HR6);(try clear HSz);(try clear H);(try clear H1);(try clear H2);(try clear HBy);(try clear HBy1);(try clear HVt);(try clear HEt);(try clear HN);(try clear HLF);(try clear HAll);(try clear HLo);(try clear HNt);(try clear HSR);(try clear HIs);(try clear HRow);(try clear HLe);(try clear HOut);(try clear HLO);(try clear HByO);(try clear HO);(try clear Hm5);(try clear Ha');(try clear Hb');(try clear Hs');(try clear G1);(try clear G2);(try clear G3);(try clear HBad);(try clear HGd);(try clear hn);(try clear hn1);(try clear hn2);(try clear hm);(try clear hm1);(try clear hm2);(try clear hsq);(try clear hesq);(try clear hc2);(try clear w1');(try clear w2');(try clear w5');(try clear w3');(try clear w4');(try clear bl);(try clear bd);(try clear bd2);(try clear bx);(try clear Hbb);(try clear hab);(try clear hbr);(try clear HL);(try clear HL1);(try clear HL2);(try clear hk);(try clear hd0);(try clear e1)
                                refine wp_region_below_seq ?_
                                repeat (first | go_big_quiet_step (fail) | quiet_step (fail))
                                refine wpQuiet_nil ?_
                                rintro _ ⟨pq, rfl⟩
                                have HR := Kp.mk PK.out.1
                                have HJ7 := Kp.mk (PK.out.2.1.below pq.h)
                                have HZ7 := Kp.mk ((pq.h.block _ (lt_of_block PK.out.2.2.1)).trans PK.out.2.2.1)
                                have HR7 := Kp.mk (Kd.R_below PK.out.2.2.2.1 pq.h)
                                have HSz := Kp.mk PK.out.2.2.2.2
                                clear Bv1 Bv2 Bv3 Be2 Be3 Be4 Bq0 Bq1 Bq2 Bq3 PK
                                have o0 := cells_top HJ7.out.z9 0 (.slice none 0 0) rfl;have r0 := cells_top HJ7.out.z8 0 (.slice none 0 0) rfl;have g0 := free_top HJ7.out.z8 0;have o1 := cells_top HJ7.out.z9 1 (.int .i64 0) rfl;have r1 := cells_top HJ7.out.z8 1 (.int .i64 0) rfl;have g1 := free_top HJ7.out.z8 1;have o2 := cells_top HJ7.out.z9 2 (.int .i64 0) rfl;have r2 := cells_top HJ7.out.z8 2 (.int .i64 0) rfl;have g2 := free_top HJ7.out.z8 2;have o3 := cells_top HJ7.out.z9 3 (.int .u64 0) rfl;have r3 := cells_top HJ7.out.z8 3 (.int .u64 0) rfl;have g3 := free_top HJ7.out.z8 3
                                have HZ := Jn.ret HJ7.out
                                (try simp only []); repeat (first | go_values | go_skip | go_guarded | go_step)
                                try simp only [Exit.inBlock, Exit.then]
                                refine @ret_ct ?P5205 ?fn5205 ?R5205 ?a5205 ?w5205 ?ty5205 (w.heap.size + 1 + 1) ?t5205 ?cs5205 ?fr5205 ?d5205 ?v5205 ?g1x5205 ?g2x5205 ?g3x5205 ?g4x5205 ?g5x5205 ?g6x5205 ?g7x5205 ?g8x5205 ?g9x5205
                                (case g1x5205 => exact rfl);(case g2x5205 => exact rfl);(case g3x5205 => exact rfl);(case g4x5205 => exact HZ.1);(case g5x5205 => exact Try.underlying27);(case g6x5205 => exact rfl);(case g7x5205 => kernel_rfl);(case g8x5205 => exact rfl)
                                exact ⟨10, [], 0, 0, 0, _, rfl, HR.out, Kd.R_nil _ _ _ _ _, HZ.2.2⟩
                              · have u2 : decide (esq < sq) = false := decide_eq_false k2
                                have G3 : Kp (sq ≤ outS sq esq) := ⟨by unfold outS; rw [if_pos (by omega)]; omega⟩
                                clear h2 k2
                                by_cases hvo : VOk O a' b' s'
                                · have HRV : Kp (∀ W, Below (w5.alloc (.cells #[.slice A5 m5 c5, .int .i64 a', .int .i64 b', .int .u64 s'] 27)).heap.size (w5.alloc (.cells #[.slice A5 m5 c5, .int .i64 a', .int .i64 b', .int .u64 s'] 27)) W → Calls Try.prog 17 #[.agg #[.slice A5 m5 c5, .int .i64 a', .int .i64 b', .int .u64 s']] W (fun e w' => e = .returned (.bool true) ∧ Below W.heap.size W w')) := ⟨fun W hW => by
                                      have hcc := ref_version (c := c5) a' b' s' (show kRn.C W A5 O.length O from Kd.C_below (Kd.R_reads' HR6.out).2.2 hW) HByO.out
                                      rw [← Hm5.out] at hcc
                                      exact hcc.mono (fun e w' ⟨b, he, hb, hB⟩ => ⟨by rw [he, hb.2 hvo], hB⟩)⟩
                                  have HR := Kp.mk (HGd.out ⟨G1.out, G2.out, G3.out, by rw [HO.out, Ha'.out, Hb'.out, Hs'.out] at hvo; exact hvo⟩)
                                  clear hvo HBad HGd
                                  have PK := Kp.mk (And.intro HR.out (And.intro HJ.out (And.intro HZ6.out (And.intro HR6.out HSz.out))))
                                  (try clear HR);(try clear HJ);(try clear HZ6);(try clear HR6);(try clear HSz);(try clear H);(try clear H1);(try clear H2);(try clear HBy);(try clear HBy1);(try clear HVt);(try clear HEt);(try clear HN);(try clear HLF);(try clear HAll);(try clear HLo);(try clear HNt);(try clear HSR);(try clear HIs);(try clear HRow);(try clear HLe);(try clear HOut);(try clear HLO);(try clear HByO);(try clear HO);(try clear Hm5);(try clear Ha');(try clear Hb');(try clear Hs');(try clear G1);(try clear G2);(try clear G3);(try clear HBad);(try clear HGd);(try clear hn);(try clear hn1);(try clear hn2);(try clear hm);(try clear hm1);(try clear hm2);(try clear hsq);(try clear hesq);(try clear hc2);(try clear w1');(try clear w2');(try clear w5');(try clear w3');(try clear w4');(try clear bl);(try clear bd);(try clear bd2);(try clear bx);(try clear Hbb);(try clear hab);(try clear hbr);(try clear HL);(try clear HL1);(try clear HL2);(try clear hk);(try clear hd0);(try clear e1)
                                  refine wp_region_below_seq ?_
                                  repeat (first | go_big_quiet_step ((go_at_call 17; exact calls_blw (HRV.out _ (Blw.h _)))) | quiet_step ((go_at_call 17; exact calls_blw (HRV.out _ (Blw.h _)))))
                                  refine wpQuiet_nil ?_
                                  rintro _ ⟨pq, rfl⟩
                                  have HR := Kp.mk PK.out.1
                                  have HJ7 := Kp.mk (PK.out.2.1.below pq.h)
                                  have HZ7 := Kp.mk ((pq.h.block _ (lt_of_block PK.out.2.2.1)).trans PK.out.2.2.1)
                                  have HR7 := Kp.mk (Kd.R_below PK.out.2.2.2.1 pq.h)
                                  have HSz := Kp.mk PK.out.2.2.2.2
                                  clear Bv1 Bv2 Bv3 Be2 Be3 Be4 Bq0 Bq1 Bq2 Bq3 PK
                                  clear HRV
                                  have q0 := cells_top HZ7.out 0 (.slice A5 m5 c5) rfl;have q1 := cells_top HZ7.out 1 (.int .i64 a') rfl;have q2 := cells_top HZ7.out 2 (.int .i64 b') rfl;have q3 := cells_top HZ7.out 3 (.int .u64 s') rfl;have r0 := cells_top HJ7.out.z8 0 (.slice none 0 0) rfl;have g0 := free_top HJ7.out.z8 0;have r1 := cells_top HJ7.out.z8 1 (.int .i64 0) rfl;have g1 := free_top HJ7.out.z8 1;have r2 := cells_top HJ7.out.z8 2 (.int .i64 0) rfl;have g2 := free_top HJ7.out.z8 2;have r3 := cells_top HJ7.out.z8 3 (.int .u64 0) rfl;have g3 := free_top HJ7.out.z8 3
                                  have HZ := laid4 HJ7.out.z8 (.slice A5 m5 c5) (.int .i64 a') (.int .i64 b') (.int .u64 s')
                                  have HP := Kp.mk (put_R (Kd.R_lower HR7.out HSz.out) HJ7.out.z8 (.slice A5 m5 c5) (.int .i64 a') (.int .i64 b') (.int .u64 s'))
                                  (try simp only []); repeat (first | go_values | go_skip | go_guarded | go_step)
                                  try simp only [Exit.inBlock, Exit.then]
                                  refine @ret_ct ?P5314 ?fn5314 ?R5314 ?a5314 ?w5314 ?ty5314 (w.heap.size + 1 + 1) ?t5314 ?cs5314 ?fr5314 ?d5314 ?v5314 ?g1x5314 ?g2x5314 ?g3x5314 ?g4x5314 ?g5x5314 ?g6x5314 ?g7x5314 ?g8x5314 ?g9x5314
                                  (case g1x5314 => exact rfl);(case g2x5314 => exact rfl);(case g3x5314 => exact rfl);(case g4x5314 => exact HZ);(case g5x5314 => exact Try.underlying27);(case g6x5314 => exact rfl);(case g7x5314 => kernel_rfl);(case g8x5314 => exact rfl)
                                  have ub : w.heap.size ≤ w.heap.size + 1 + 1 := Nat.le_add_right _ 2
                                  exact ⟨0, O, a', b', s', _, rfl, HR.out, HP.out, (((HJ7.out.b.setCell ub _).setCell ub _).setCell ub _).setCell ub _⟩
                                · have HRV : Kp (∀ W, Below (w5.alloc (.cells #[.slice A5 m5 c5, .int .i64 a', .int .i64 b', .int .u64 s'] 27)).heap.size (w5.alloc (.cells #[.slice A5 m5 c5, .int .i64 a', .int .i64 b', .int .u64 s'] 27)) W → Calls Try.prog 17 #[.agg #[.slice A5 m5 c5, .int .i64 a', .int .i64 b', .int .u64 s']] W (fun e w' => e = .returned (.bool false) ∧ Below W.heap.size W w')) := ⟨fun W hW => by
                                      have hcc := ref_version (c := c5) a' b' s' (show kRn.C W A5 O.length O from Kd.C_below (Kd.R_reads' HR6.out).2.2 hW) HByO.out
                                      rw [← Hm5.out] at hcc
                                      exact hcc.mono (fun e w' ⟨b, he, hb, hB⟩ => ⟨by rw [he]; cases b with | false => rfl | true => exact absurd (hb.1 rfl) hvo, hB⟩)⟩
                                  have HR := Kp.mk (HBad.out (fun hg => by have h9 := hg.2.2.2; rw [← HO.out, ← Ha'.out, ← Hb'.out, ← Hs'.out] at h9; exact hvo h9))
                                  clear hvo HBad HGd
                                  have PK := Kp.mk (And.intro HR.out (And.intro HJ.out (And.intro HZ6.out (And.intro HR6.out HSz.out))))
                                  (try clear HR);(try clear HJ);(try clear HZ6);(try clear HR6);(try clear HSz);(try clear H);(try clear H1);(try clear H2);(try clear HBy);(try clear HBy1);(try clear HVt);(try clear HEt);(try clear HN);(try clear HLF);(try clear HAll);(try clear HLo);(try clear HNt);(try clear HSR);(try clear HIs);(try clear HRow);(try clear HLe);(try clear HOut);(try clear HLO);(try clear HByO);(try clear HO);(try clear Hm5);(try clear Ha');(try clear Hb');(try clear Hs');(try clear G1);(try clear G2);(try clear G3);(try clear HBad);(try clear HGd);(try clear hn);(try clear hn1);(try clear hn2);(try clear hm);(try clear hm1);(try clear hm2);(try clear hsq);(try clear hesq);(try clear hc2);(try clear w1');(try clear w2');(try clear w5');(try clear w3');(try clear w4');(try clear bl);(try clear bd);(try clear bd2);(try clear bx);(try clear Hbb);(try clear hab);(try clear hbr);(try clear HL);(try clear HL1);(try clear HL2);(try clear hk);(try clear hd0);(try clear e1)
                                  refine wp_region_below_seq ?_
                                  repeat (first | go_big_quiet_step ((go_at_call 17; exact calls_blw (HRV.out _ (Blw.h _)))) | quiet_step ((go_at_call 17; exact calls_blw (HRV.out _ (Blw.h _)))))
                                  refine wpQuiet_nil ?_
                                  rintro _ ⟨pq, rfl⟩
                                  have HR := Kp.mk PK.out.1
                                  have HJ7 := Kp.mk (PK.out.2.1.below pq.h)
                                  have HZ7 := Kp.mk ((pq.h.block _ (lt_of_block PK.out.2.2.1)).trans PK.out.2.2.1)
                                  have HR7 := Kp.mk (Kd.R_below PK.out.2.2.2.1 pq.h)
                                  have HSz := Kp.mk PK.out.2.2.2.2
                                  clear Bv1 Bv2 Bv3 Be2 Be3 Be4 Bq0 Bq1 Bq2 Bq3 PK
                                  clear HRV
                                  have o0 := cells_top HJ7.out.z9 0 (.slice none 0 0) rfl;have r0 := cells_top HJ7.out.z8 0 (.slice none 0 0) rfl;have g0 := free_top HJ7.out.z8 0;have o1 := cells_top HJ7.out.z9 1 (.int .i64 0) rfl;have r1 := cells_top HJ7.out.z8 1 (.int .i64 0) rfl;have g1 := free_top HJ7.out.z8 1;have o2 := cells_top HJ7.out.z9 2 (.int .i64 0) rfl;have r2 := cells_top HJ7.out.z8 2 (.int .i64 0) rfl;have g2 := free_top HJ7.out.z8 2;have o3 := cells_top HJ7.out.z9 3 (.int .u64 0) rfl;have r3 := cells_top HJ7.out.z8 3 (.int .u64 0) rfl;have g3 := free_top HJ7.out.z8 3
                                  have HZ := Jn.ret HJ7.out
                                  (try simp only []); repeat (first | go_values | go_skip | go_guarded | go_step)
                                  try simp only [Exit.inBlock, Exit.then]
                                  refine @ret_ct ?P5419 ?fn5419 ?R5419 ?a5419 ?w5419 ?ty5419 (w.heap.size + 1 + 1) ?t5419 ?cs5419 ?fr5419 ?d5419 ?v5419 ?g1x5419 ?g2x5419 ?g3x5419 ?g4x5419 ?g5x5419 ?g6x5419 ?g7x5419 ?g8x5419 ?g9x5419
                                  (case g1x5419 => exact rfl);(case g2x5419 => exact rfl);(case g3x5419 => exact rfl);(case g4x5419 => exact HZ.1);(case g5x5419 => exact Try.underlying27);(case g6x5419 => exact rfl);(case g7x5419 => kernel_rfl);(case g8x5419 => exact rfl)
                                  exact ⟨10, [], 0, 0, 0, _, rfl, HR.out, Kd.R_nil _ _ _ _ _, HZ.2.2⟩
                  · have HRw : Kp (¬ RowAt rs drop a) := ⟨fun h => hrow (by have := Hrw.out.2 h; rwa [HL2.out] at this)⟩
                    have bx : (((b : Int) - (a : Int) + 1) != (n2 : Int)) = true := by rw [bne_iff_ne]; omega
                    clear hrow Hrw
                    have HR : Kp (ApplyR rs nx lg sq add drop enx elg esq 10 [] 0 0 0) := ⟨.inr ⟨⟨HVt.out, HEt.out⟩, .inr ⟨HAll.out, .inr ⟨HNt.out, .inr ⟨HLe.out, a, HIs.out, .inl ⟨rfl, HRw.out, rfl, rfl, rfl, rfl⟩⟩⟩⟩⟩⟩
                    have o0 := cells_top HJ.out.z9 0 (.slice none 0 0) rfl;have r0 := cells_top HJ.out.z8 0 (.slice none 0 0) rfl;have g0 := free_top HJ.out.z8 0;have o1 := cells_top HJ.out.z9 1 (.int .i64 0) rfl;have r1 := cells_top HJ.out.z8 1 (.int .i64 0) rfl;have g1 := free_top HJ.out.z8 1;have o2 := cells_top HJ.out.z9 2 (.int .i64 0) rfl;have r2 := cells_top HJ.out.z8 2 (.int .i64 0) rfl;have g2 := free_top HJ.out.z8 2;have o3 := cells_top HJ.out.z9 3 (.int .u64 0) rfl;have r3 := cells_top HJ.out.z8 3 (.int .u64 0) rfl;have g3 := free_top HJ.out.z8 3
                    have HZ := Jn.ret HJ.out
                    (try simp only []); repeat (first | go_values | go_skip | go_guarded | go_step)
                    try simp only [Exit.inBlock, Exit.then]
                    refine @ret_ct ?P5448 ?fn5448 ?R5448 ?a5448 ?w5448 ?ty5448 (w.heap.size + 1 + 1) ?t5448 ?cs5448 ?fr5448 ?d5448 ?v5448 ?g1x5448 ?g2x5448 ?g3x5448 ?g4x5448 ?g5x5448 ?g6x5448 ?g7x5448 ?g8x5448 ?g9x5448
                    (case g1x5448 => exact rfl);(case g2x5448 => exact rfl);(case g3x5448 => exact rfl);(case g4x5448 => exact HZ.1);(case g5x5448 => exact Try.underlying27);(case g6x5448 => exact rfl);(case g7x5448 => kernel_rfl);(case g8x5448 => exact rfl)
                    exact ⟨10, [], 0, 0, 0, _, rfl, HR.out, Kd.R_nil _ _ _ _ _, HZ.2.2⟩
end Go.Proofs.Ytgfkpddmjcgceaa.Kx
