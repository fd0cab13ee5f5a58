import Derived.Test.YtgfkpddmjcgceaaApG
import Derived.Test.YtgfkpddmjcgceaaRoB
set_option linter.unusedVariables false
set_option linter.unusedSimpArgs false
namespace Go.Proofs.Ytgfkpddmjcgceaa.Kx
open Go.RowKit Go.Maps Go.Proofs.YtgfkpddmjcgceaaW.PrintWords

/-- The two versions of VersionRows, in blocks pv and pv + 1. -/
structure Ro (w W : World) (pv : Nat) (v u : Value) (a b d : Int) (rs : List Rn) : Prop where
  zv : W.heap[pv]? = some (.cells #[v, .int .i64 a, .int .i64 b, .int .u64 d] 27 (0, 0))
  zw : W.heap[pv + 1]? = some (.cells #[u, .int .i64 a, .int .i64 b, .int .u64 d] 27 (0, 0))
  rv : kRn.R 42 W w.heap.size (fun _ => True) v rs
  ru : kRn.R 42 W w.heap.size (fun _ => True) u rs
  b : Below w.heap.size w W
section
variable {w W W1 : World} {pv : Nat} {v u : Value} {a b d : Int} {rs : List Rn}
theorem Ro.below (h : Ro w W pv v u a b d rs) (hb : Below W.heap.size W W1) : Ro w W1 pv v u a b d rs :=
  ⟨(hb.block _ (lt_of_block h.zv)).trans h.zv, (hb.block _ (lt_of_block h.zw)).trans h.zw, Kd.R_below h.rv hb, Kd.R_below h.ru hb, h.b.trans (hb.mono h.b.size)⟩
theorem put_far {p g : Nat} {o : Option Obj} (h : W.heap[g]? = o) (hg : g ≠ p) (x y z t : Value) : ((((W.setCell ⟨p, 0, none⟩ x).setCell ⟨p, 1, none⟩ y).setCell ⟨p, 2, none⟩ z).setCell ⟨p, 3, none⟩ t).heap[g]? = o := by
  rw [Below.heap_setCell _ ⟨p, 3, none⟩ t g hg, Below.heap_setCell _ ⟨p, 2, none⟩ z g hg, Below.heap_setCell _ ⟨p, 1, none⟩ y g hg, Below.heap_setCell _ ⟨p, 0, none⟩ x g hg, h]
theorem put_below {B p : Nat} (h : Below B w W) (hg : B ≤ p) (x y z t : Value) : Below B w ((((W.setCell ⟨p, 0, none⟩ x).setCell ⟨p, 1, none⟩ y).setCell ⟨p, 2, none⟩ z).setCell ⟨p, 3, none⟩ t) :=
  (((h.setCell (by show B ≤ p; exact hg) _).setCell (by show B ≤ p; exact hg) _).setCell (by show B ≤ p; exact hg) _).setCell (by show B ≤ p; exact hg) _
theorem Ro.put {p : Nat} {cs : Array Value} (h : Ro w W pv v u a b d rs) (hp : W.heap[p]? = some (.cells cs 27 (0, 0))) (hg : pv + 1 < p) (hw : w.heap.size ≤ p) (x y z t : Value) :
    Ro w ((((W.setCell ⟨p, 0, none⟩ x).setCell ⟨p, 1, none⟩ y).setCell ⟨p, 2, none⟩ z).setCell ⟨p, 3, none⟩ t) pv v u a b d rs :=
  ⟨put_far h.zv (by omega) _ _ _ _, put_far h.zw (by omega) _ _ _ _, put_R h.rv hp _ _ _ _, put_R h.ru hp _ _ _ _, put_below h.b hw _ _ _ _⟩
/-- .. and what Apply has made, in block p. -/
structure Rx (w W : World) (pv : Nat) (v u : Value) (a b d : Int) (rs : List Rn) (p : Nat) (y : Value) (a' b' d' : Int) (l : List Rn) : Prop where
  ro : Ro w W pv v u a b d rs
  zx : W.heap[p]? = some (.cells #[y, .int .i64 a', .int .i64 b', .int .u64 d'] 27 (0, 0))
  rx : kRn.R 42 W w.heap.size (fun _ => True) y l
  hp : pv + 1 < p
  hq : w.heap.size ≤ p
variable {p : Nat} {y : Value} {a' b' d' : Int} {l : List Rn}
theorem Rx.below (h : Rx w W pv v u a b d rs p y a' b' d' l) (hb : Below W.heap.size W W1) : Rx w W1 pv v u a b d rs p y a' b' d' l :=
  ⟨h.ro.below hb, (hb.block _ (lt_of_block h.zx)).trans h.zx, Kd.R_below h.rx hb, h.hp, h.hq⟩
theorem Rx.put {q : Nat} {cs : Array Value} (h : Rx w W pv v u a b d rs p y a' b' d' l) (hq : W.heap[q]? = some (.cells cs 27 (0, 0))) (hg : p < q) (hw : w.heap.size ≤ q) (x0 x1 x2 x3 : Value) :
    Rx w ((((W.setCell ⟨q, 0, none⟩ x0).setCell ⟨q, 1, none⟩ x1).setCell ⟨q, 2, none⟩ x2).setCell ⟨q, 3, none⟩ x3) pv v u a b d rs p y a' b' d' l :=
  ⟨h.ro.put hq (by have := h.hp; omega) hw _ _ _ _, put_far h.zx (by omega) _ _ _ _, put_R h.rx hq _ _ _ _, h.hp, h.hq⟩
end
theorem apply_byt {rs : List Rn} {nx lg sq : Int} {add : List Rn} {drop : List Int} {enx elg esq : Int} {l : List Rn} {a b c : Int} (h : ApplyR rs nx lg sq add drop enx elg esq 0 l a b c) (hb : BytRs rs) (hb1 : BytRs add) : BytRs l := by
  obtain ⟨a0, h0⟩ := at_ex rs drop
  rw [(apply_out h h0).1]
  exact byt_out hb hb1 _ _
theorem ro_next {w W : World} {pv : Nat} {v u v' u' : Value} {a b d : Int} {rs l : List Rn} (h : Ro w W pv v u a b d rs) (r1 : kRn.R 42 W w.heap.size (fun _ => True) v' l) (r2 : kRn.R 42 W w.heap.size (fun _ => True) u' l) (hg : w.heap.size ≤ pv) (a' b' d' : Int) :
    Ro w ((((((((W.setCell ⟨pv, 0, none⟩ v').setCell ⟨pv, 1, none⟩ (.int .i64 a')).setCell ⟨pv, 2, none⟩ (.int .i64 b')).setCell ⟨pv, 3, none⟩ (.int .u64 d')).setCell ⟨pv + 1, 0, none⟩ u').setCell ⟨pv + 1, 1, none⟩ (.int .i64 a')).setCell ⟨pv + 1, 2, none⟩ (.int .i64 b')).setCell ⟨pv + 1, 3, none⟩ (.int .u64 d')) pv v' u' a' b' d' l :=
  have y := put_far h.zw (show pv + 1 ≠ pv by omega) v' (.int .i64 a') (.int .i64 b') (.int .u64 d')
  ⟨put_far (laid4 h.zv _ _ _ _) (by omega) _ _ _ _, laid4 y _ _ _ _, put_R (put_R r1 h.zv _ _ _ _) y _ _ _ _, put_R (put_R r2 h.zv _ _ _ _) y _ _ _ _, put_below (put_below h.b hg _ _ _ _) (by omega) _ _ _ _⟩
set_option maxHeartbeats 16000000 in
set_option maxRecDepth 100000 in
theorem version_rows {w : World} {A : Option Addr} {n c : Nat} {l0 : List Ed} (h : kEd.C w A n l0) (hin : ∀ e, e ∈ l0 → EdIn e) :
    Calls Try.prog 3 #[.slice A n c] w fun e w' => e = .returned (.bool true) ∧ Below w.heap.size w w' := by
  have Hl := Kp.mk h.1
  have hm := h.2.1
  have H := Kp.mk h
  have HIn := Kp.mk hin
  clear h hin
  by_cases hbig : 15 < n
  · have bg : decide ((15 : Int) < (n : Int)) = true := decide_eq_true (by omega)
    go_enter Try.func3, Try.ntmps3
    go_wp2_with fail
    refine (alive_any _).mono ?_
    rintro e w1 ⟨rfl, hb1⟩
    have HB1 := Kp.mk hb1
    clear hb1
    go_wp2_with fail
    go_ret
    exact ⟨rfl, HB1.out⟩
  · have bg : decide ((15 : Int) < (n : Int)) = false := decide_eq_false (by omega)
    have hn15 : n ≤ 15 := by omega
    go_enter Try.func3, Try.ntmps3
    go_wp2_with fail
    refine (alive_any _).mono ?_
    rintro e w1 ⟨rfl, hb1⟩
    have HB1 := Kp.mk hb1
    clear hb1
    go_wp2_with fail
    obtain ⟨pv, hpv⟩ : ∃ pv, pv = w1.heap.size := ⟨_, rfl⟩
    have HG : Kp (w.heap.size ≤ pv) := ⟨by rw [hpv]; exact HB1.out.size⟩
    have HR0 : Kp (Ro w ((w1.alloc (.cells #[.slice none 0 0, .int .i64 1, .int .i64 0, .int .u64 0] 27)).alloc (.cells #[.slice none 0 0, .int .i64 1, .int .i64 0, .int .u64 0] 27)) pv (.slice none 0 0) (.slice none 0 0) 1 0 0 []) := ⟨by
      obtain ⟨h0, g1, g2⟩ := nest2 (w := w1) (o1 := .cells #[.slice none 0 0, .int .i64 1, .int .i64 0, .int .u64 0] 27) (o2 := .cells #[.slice none 0 0, .int .i64 1, .int .i64 0, .int .u64 0] 27) (Below.refl _ _)
      rw [hpv]
      exact ⟨g1, g2, Kd.R_nil _ _ _ _ _, Kd.R_nil _ _ _ _ _, HB1.out.trans (h0.mono HB1.out.size)⟩⟩
    rw [← hpv]
    clear hpv HB1
    go_loopw [6] (fun i wr => ∃ (k : Nat) (rs : List Rn) (v u : Value) (a b d : Int), k ≤ n ∧ i = .int .i64 k ∧ Kp (Ro w wr pv v u a b d rs) ∧ Kp (BytRs rs ∧ 0 ≤ d)) (fun i _ => n - (intOf i).toNat)
    case atStart => exact ⟨0, [], _, _, _, _, _, Nat.zero_le _, rfl, HR0, ⟨(fun i hi => by simp at hi), Int.le_refl _⟩⟩
    case round =>
      clear HR0
      obtain ⟨k, rs, v, u, a, b, d, hk, rfl, HR, HBd⟩ := hrel
      by_cases hlt : k < n
      · have hki : (k : Int) < (n : Int) := by omega
        have hd := HBd.out.2
        obtain ⟨Av, cv, ev⟩ := Kd.R_slice HR.out.rv
        obtain ⟨Au, cu, eu⟩ := Kd.R_slice HR.out.ru
        obtain ⟨m, hm2⟩ : ∃ m, m = rs.length := ⟨_, rfl⟩
        rw [← hm2] at ev eu
        subst ev
        subst eu
        have Hm := Kp.mk hm2
        clear hm2
        obtain ⟨ad, A1, A2, c1, c2, e7, x0, x1, x2, x3, x4, g1, l2, g2⟩ := ed_at H.out k hlt
        subst e7
        have HIe : Kp (EdIn (l0.getD k zEd)) := ⟨HIn.out _ (getD_mem (by have := Hl.out; omega))⟩
        obtain ⟨E, hE⟩ : ∃ E, l0.getD k zEd = E := ⟨_, rfl⟩
        rw [hE] at x0 x1 x2 x3 x4 g1 l2 g2 HIe
        have G1 := Kp.mk g1
        have G2 := Kp.mk g2
        have hdl := g2.2.1
        have hesq := HIe.out.2
        obtain ⟨na, hna⟩ : ∃ na, na = E.add.length := ⟨_, rfl⟩
        obtain ⟨nd, hnd⟩ : ∃ nd, nd = E.drop.length := ⟨_, rfl⟩
        rw [← hna] at x0
        rw [← hnd] at x1 l2 hdl
        have Hna := Kp.mk hna
        have Hnd := Kp.mk hnd
        have HByE : Kp (BytRs E.add) := ⟨byt_of_in HIe.out.1⟩
        clear hE g1 g2 hna hnd
        have HX : Kp (∀ W, Below w.heap.size w W → W.cell? (ad.add (k * 5)) = some (.slice A1 na c1) ∧ W.cell? ⟨(ad.add (k * 5)).block, (ad.add (k * 5)).off + 1, none⟩ = some (.slice A2 nd c2) ∧ W.cell? ⟨(ad.add (k * 5)).block, (ad.add (k * 5)).off + 2, none⟩ = some (.int .i64 E.nx) ∧ W.cell? ⟨(ad.add (k * 5)).block, (ad.add (k * 5)).off + 3, none⟩ = some (.int .i64 E.lg) ∧ W.cell? ⟨(ad.add (k * 5)).block, (ad.add (k * 5)).off + 4, none⟩ = some (.int .u64 E.sq)) := ⟨fun W h => ⟨pw_cell_below h x0, pw_cell_below h x1, pw_cell_below h x2, pw_cell_below h x3, pw_cell_below h x4⟩⟩
        clear x0 x1 x2 x3 x4
        obtain ⟨x0, x1, x2, x3, x4⟩ := HX.out _ HR.out.b
        have hcc := big_edit (c := c1) (A' := A2) (m := nd) (c' := c2) E.nx E.lg E.sq (show kRn.C wr A1 na E.add by rw [Hna.out]; exact Kd.C_below G1.out HR.out.b) hdl
        have Hcc := Kp.mk hcc
        clear hcc
        go_wp2_with fail
        refine Hcc.out.mono ?_
        clear Hcc x0 x1 x2 x3 x4
        rintro e w3 ⟨b1, rfl, hs, hb2⟩
        have HR3 := Kp.mk (HR.out.below hb2)
        clear hs hb2 HR
        cases b1 with
        | true =>
          go_wp2_with fail
          go_ret
          exact ⟨rfl, HR3.out.b⟩
        | false =>
          go_wp2_with fail
          have HR3d := Kp.mk (HR3.out.below (drew_below' _))
          refine wp_region_held_drew (S := fun W => (W.cell? ⟨pv, 0, none⟩ = some (.slice Av m cv) ∧ W.cell? ⟨pv, 1, none⟩ = some (.int .i64 a) ∧ W.cell? ⟨pv, 2, none⟩ = some (.int .i64 b) ∧ W.cell? ⟨pv, 3, none⟩ = some (.int .u64 d)) ∧ W.cell? (ad.add (k * 5)) = some (.slice A1 na c1) ∧ W.cell? ⟨(ad.add (k * 5)).block, (ad.add (k * 5)).off + 1, none⟩ = some (.slice A2 nd c2) ∧ W.cell? ⟨(ad.add (k * 5)).block, (ad.add (k * 5)).off + 2, none⟩ = some (.int .i64 E.nx) ∧ W.cell? ⟨(ad.add (k * 5)).block, (ad.add (k * 5)).off + 3, none⟩ = some (.int .i64 E.lg) ∧ W.cell? ⟨(ad.add (k * 5)).block, (ad.add (k * 5)).off + 4, none⟩ = some (.int .u64 E.sq)) (by kernel_rfl) ⟨⟨cells_top HR3d.out.zv 0 _ rfl, cells_top HR3d.out.zv 1 _ rfl, cells_top HR3d.out.zv 2 _ rfl, cells_top HR3d.out.zv 3 _ rfl⟩, HX.out _ HR3d.out.b⟩ (fun hHeld0 => ?_)
          clear HR3
          refine wpAnyH_take (i := 0) (oi := _) (v := ?_) rfl (by kernel_rfl) (by kernel_rfl) (by kernel_rfl) (fun _ _ _ h => h) (Or.inl ⟨by rfl, ?_⟩) (by assumption) ?_
          rotate_left
          · intro w5 hSw; (try dsimp only at hSw); go_simp; all_goals (with_reducible rfl)
          try simp only [List.getElem_toArray, List.getElem_cons_succ, List.getElem_cons_zero, Act.put, List.setIfInBounds_toArray, List.set_cons_zero, List.set_cons_succ]
          refine wpAnyH_take (i := 1) (oi := _) (v := ?_) rfl (by kernel_rfl) (by kernel_rfl) (by kernel_rfl) (fun _ _ _ h => h) (Or.inl ⟨by rfl, ?_⟩) (by assumption) ?_
          rotate_left
          · intro w5 hSw; (try dsimp only at hSw); go_simp; all_goals (with_reducible rfl)
          try simp only [List.getElem_toArray, List.getElem_cons_succ, List.getElem_cons_zero, Act.put, List.setIfInBounds_toArray, List.set_cons_zero, List.set_cons_succ]
          refine wpAnyH_take (i := 2) (oi := _) (v := ?_) rfl (by kernel_rfl) (by kernel_rfl) (by kernel_rfl) (fun _ _ _ h => h) (Or.inl ⟨by rfl, ?_⟩) (by assumption) ?_
          rotate_left
          · intro w5 hSw; (try dsimp only at hSw); go_simp; all_goals (with_reducible rfl)
          try simp only [List.getElem_toArray, List.getElem_cons_succ, List.getElem_cons_zero, Act.put, List.setIfInBounds_toArray, List.set_cons_zero, List.set_cons_succ]
          refine wpAnyH_take (i := 3) (oi := _) (v := ?_) rfl (by kernel_rfl) (by kernel_rfl) (by kernel_rfl) (fun _ _ _ h => h) (Or.inl ⟨by rfl, ?_⟩) (by assumption) ?_
          rotate_left
          · intro w5 hSw; (try dsimp only at hSw); go_simp; all_goals (with_reducible rfl)
          try simp only [List.getElem_toArray, List.getElem_cons_succ, List.getElem_cons_zero, Act.put, List.setIfInBounds_toArray, List.set_cons_zero, List.set_cons_succ]
          refine wpAnyH_take (i := 4) (oi := _) (v := ?_) rfl (by kernel_rfl) (by kernel_rfl) (by kernel_rfl) (fun _ _ _ h => h) (Or.inl ⟨by rfl, ?_⟩) (by assumption) ?_
          rotate_left
          · intro w5 hSw; (try dsimp only at hSw); go_simp; all_goals (with_reducible rfl)
          try simp only [List.getElem_toArray, List.getElem_cons_succ, List.getElem_cons_zero, Act.put, List.setIfInBounds_toArray, List.set_cons_zero, List.set_cons_succ]
          refine wpAnyH_ready (rs := [5, 9]) (by kernel_rfl) (by simp) ?_
          refine AllReadyH.cons (o := _) rfl (fun K hK => ?_) (AllReadyH.cons (o := _) rfl (fun K hK => ?_) AllReadyH.nil)
          · skip
            go_simp
            refine (by have := version_apply (c := cv) (c1 := c1) (c2 := c2) a b d E.nx E.lg E.sq (Kd.R_reads' HR3d.out.rv).2.2 (by have := (Kd.R_reads' HR3d.out.rv).2.1; rwa [Hm.out] at this) (Kd.C_below G1.out HR3d.out.b) (Kd.C_below G2.out HR3d.out.b) hd hesq; rwa [← Hm.out, ← Hna.out, ← Hnd.out] at this : Calls _ _ _ _ _).mono ?_
            rintro e w12 ⟨x, l, a1, b1, d1, yv, rfl, hRR, hv, hbq⟩
            have HR31 := Kp.mk (HR3d.out.below hbq)
            have HRy := Kp.mk (Kd.R_lower (base' := w.heap.size) hv HR3d.out.b.size)
            have HAp := Kp.mk hRR
            obtain ⟨A5, c5, rfl⟩ := Kd.R_slice hv
            obtain ⟨m5, hm5⟩ : ∃ m5, m5 = l.length := ⟨_, rfl⟩
            rw [← hm5] at HRy ⊢
            have Hm5 := Kp.mk hm5
            clear hm5 hRR hv
            refine hK.out _ _ ⟨⟨cells_top HR31.out.zv 0 _ rfl, cells_top HR31.out.zv 1 _ rfl, cells_top HR31.out.zv 2 _ rfl, cells_top HR31.out.zv 3 _ rfl⟩, HX.out _ HR31.out.b⟩ (fun hHeld1 => ?_)
            clear hK K hHeld0 HR3d hbq
            try simp only [List.getElem_toArray, List.getElem_cons_succ, List.getElem_cons_zero, Act.put, List.setIfInBounds_toArray, List.set_cons_zero, List.set_cons_succ]
            refine wpAnyH_take (i := 6) (oi := _) (v := ?_) rfl (by kernel_rfl) (by kernel_rfl) (by kernel_rfl) (fun _ _ _ h => h) (Or.inl ⟨by rfl, ?_⟩) (by assumption) ?_
            rotate_left
            · intro w5 hSw; (try dsimp only at hSw); go_simp; all_goals (with_reducible rfl)
            try simp only [List.getElem_toArray, List.getElem_cons_succ, List.getElem_cons_zero, Act.put, List.setIfInBounds_toArray, List.set_cons_zero, List.set_cons_succ]
            refine wpAnyH_take (i := 7) (oi := _) (v := ?_) rfl (by kernel_rfl) (by kernel_rfl) (by kernel_rfl) (fun _ _ _ h => h) (Or.inl ⟨by rfl, ?_⟩) (by assumption) ?_
            rotate_left
            · intro w5 hSw; (try dsimp only at hSw); go_simp; all_goals (with_reducible rfl)
            try simp only [List.getElem_toArray, List.getElem_cons_succ, List.getElem_cons_zero, Act.put, List.setIfInBounds_toArray, List.set_cons_zero, List.set_cons_succ]
            refine wpAnyH_take (i := 8) (oi := _) (v := ?_) rfl (by kernel_rfl) (by kernel_rfl) (by kernel_rfl) (fun _ _ _ h => h) (Or.inl ⟨by rfl, ?_⟩) (by assumption) ?_
            rotate_left
            · intro w5 hSw; (try dsimp only at hSw); go_simp; all_goals (with_reducible rfl)
            try simp only [List.getElem_toArray, List.getElem_cons_succ, List.getElem_cons_zero, Act.put, List.setIfInBounds_toArray, List.set_cons_zero, List.set_cons_succ]
            refine wpAnyH_ready (rs := [9]) (by kernel_rfl) (by simp) ?_
            refine AllReadyH.cons (o := _) rfl (fun K hK => ?_) AllReadyH.nil
            go_simp
            have HR32 := Kp.mk (HR31.out.below (alloc_below w12 (.cells #[.slice none 0 0, .int .i64 0, .int .i64 0, .int .u64 0] 27)))
            have HZ : Kp ((w12.alloc (.cells #[.slice none 0 0, .int .i64 0, .int .i64 0, .int .u64 0] 27)).heap[w12.heap.size]? = some (.cells #[.slice none 0 0, .int .i64 0, .int .i64 0, .int .u64 0] 27 (0, 0))) := ⟨heap_alloc_new w12 _⟩
            refine hK.out _ _ ⟨⟨cells_top HR32.out.zv 0 _ rfl, cells_top HR32.out.zv 1 _ rfl, cells_top HR32.out.zv 2 _ rfl, cells_top HR32.out.zv 3 _ rfl⟩, HX.out _ HR32.out.b⟩ (fun hHeld2 => ?_)
            clear hK K hHeld1
            try simp only [List.getElem_toArray, List.getElem_cons_succ, List.getElem_cons_zero, Act.put, List.setIfInBounds_toArray, List.set_cons_zero, List.set_cons_succ]
            refine wpAnyH_ready (rs := [10]) (by kernel_rfl) (by simp) ?_
            refine AllReadyH.cons (o := _) rfl (fun K hK => ?_) AllReadyH.nil
            have z0 := cells_top HZ.out 0 _ rfl
            have y0 := free_top HZ.out 0
            have z1 := cells_top HZ.out 1 _ rfl
            have y1 := free_top HZ.out 1
            have z2 := cells_top HZ.out 2 _ rfl
            have y2 := free_top HZ.out 2
            have z3 := cells_top HZ.out 3 _ rfl
            have y3 := free_top HZ.out 3
            go_simp
            have HR33 := Kp.mk (HR31.out.below (alloc_below w12 (.cells #[.slice A5 m5 c5, .int .i64 a1, .int .i64 b1, .int .u64 d1] 27)))
            have HZ3 : Kp ((w12.alloc (.cells #[.slice A5 m5 c5, .int .i64 a1, .int .i64 b1, .int .u64 d1] 27)).heap[w12.heap.size]? = some (.cells #[.slice A5 m5 c5, .int .i64 a1, .int .i64 b1, .int .u64 d1] 27 (0, 0))) := ⟨heap_alloc_new w12 _⟩
            have HR3y := Kp.mk (Kd.R_alloc HRy.out (.cells #[.slice A5 m5 c5, .int .i64 a1, .int .i64 b1, .int .u64 d1] 27))
            have HP3 : Kp (pv + 1 < w12.heap.size) := ⟨lt_of_block HR31.out.zw⟩
            have HQ3 : Kp (w.heap.size ≤ w12.heap.size) := ⟨HR31.out.b.size⟩
            refine hK.out _ _ ⟨⟨cells_top HR33.out.zv 0 _ rfl, cells_top HR33.out.zv 1 _ rfl, cells_top HR33.out.zv 2 _ rfl, cells_top HR33.out.zv 3 _ rfl⟩, HX.out _ HR33.out.b⟩ (fun hHeld3 => ?_)
            clear hK K hHeld2 z0 z1 z2 z3 y0 y1 y2 y3 HZ HR31 HR32 HRy
            try simp only [List.getElem_toArray, List.getElem_cons_succ, List.getElem_cons_zero, Act.put, List.setIfInBounds_toArray, List.set_cons_zero, List.set_cons_succ]
            refine wpAnyH_take (i := 11) (oi := _) (v := ?_) rfl (by kernel_rfl) (by kernel_rfl) (by kernel_rfl) (fun _ _ _ h => h) (Or.inl ⟨by rfl, ?_⟩) (by assumption) ?_
            rotate_left
            · intro w5 hSw; (try dsimp only at hSw); go_simp; all_goals (with_reducible rfl)
            try simp only [List.getElem_toArray, List.getElem_cons_succ, List.getElem_cons_zero, Act.put, List.setIfInBounds_toArray, List.set_cons_zero, List.set_cons_succ]
            refine wpAnyH_done (by kernel_rfl) ?_ _
            clear hHeld3
            have HX8 := Kp.mk (Rx.mk HR33.out HZ3.out HR3y.out HP3.out HQ3.out)
            clear HR33 HZ3 HR3y HP3 HQ3
            obtain ⟨P8, hP8⟩ : ∃ P8, P8 = w12.heap.size := ⟨_, rfl⟩
            rw [← hP8] at HX8 ⊢
            clear hP8
            go_wp2_with fail
            obtain ⟨w13a, hw13a, HX9⟩ : ∃ w13a, w13a = _ ∧ Kp (Rx w w13a pv (.slice Av m cv) (.slice Au m cu) a b d rs P8 (.slice A5 m5 c5) a1 b1 d1 l) := ⟨_, rfl, HX8⟩
            rw [← hw13a]
            clear hw13a HX8
            have HX9d := Kp.mk (HX9.out.below (drew_below' _))
            refine wp_region_held_drew (S := fun W => (W.cell? ⟨pv + 1, 0, none⟩ = some (.slice Au m cu) ∧ W.cell? ⟨pv + 1, 1, none⟩ = some (.int .i64 a) ∧ W.cell? ⟨pv + 1, 2, none⟩ = some (.int .i64 b) ∧ W.cell? ⟨pv + 1, 3, none⟩ = some (.int .u64 d)) ∧ W.cell? (ad.add (k * 5)) = some (.slice A1 na c1) ∧ W.cell? ⟨(ad.add (k * 5)).block, (ad.add (k * 5)).off + 1, none⟩ = some (.slice A2 nd c2) ∧ W.cell? ⟨(ad.add (k * 5)).block, (ad.add (k * 5)).off + 2, none⟩ = some (.int .i64 E.nx) ∧ W.cell? ⟨(ad.add (k * 5)).block, (ad.add (k * 5)).off + 3, none⟩ = some (.int .i64 E.lg) ∧ W.cell? ⟨(ad.add (k * 5)).block, (ad.add (k * 5)).off + 4, none⟩ = some (.int .u64 E.sq)) (by kernel_rfl) ⟨⟨cells_top HX9d.out.ro.zw 0 _ rfl, cells_top HX9d.out.ro.zw 1 _ rfl, cells_top HX9d.out.ro.zw 2 _ rfl, cells_top HX9d.out.ro.zw 3 _ rfl⟩, HX.out _ HX9d.out.ro.b⟩ (fun hHeld0 => ?_)
            clear HX9
            refine wpAnyH_take (i := 0) (oi := _) (v := ?_) rfl (by kernel_rfl) (by kernel_rfl) (by kernel_rfl) (fun _ _ _ h => h) (Or.inl ⟨by rfl, ?_⟩) (by assumption) ?_
            rotate_left
            · intro w5 hSw; (try dsimp only at hSw); go_simp; all_goals (with_reducible rfl)
            try simp only [List.getElem_toArray, List.getElem_cons_succ, List.getElem_cons_zero, Act.put, List.setIfInBounds_toArray, List.set_cons_zero, List.set_cons_succ]
            refine wpAnyH_take (i := 1) (oi := _) (v := ?_) rfl (by kernel_rfl) (by kernel_rfl) (by kernel_rfl) (fun _ _ _ h => h) (Or.inl ⟨by rfl, ?_⟩) (by assumption) ?_
            rotate_left
            · intro w5 hSw; (try dsimp only at hSw); go_simp; all_goals (with_reducible rfl)
            try simp only [List.getElem_toArray, List.getElem_cons_succ, List.getElem_cons_zero, Act.put, List.setIfInBounds_toArray, List.set_cons_zero, List.set_cons_succ]
            refine wpAnyH_take (i := 2) (oi := _) (v := ?_) rfl (by kernel_rfl) (by kernel_rfl) (by kernel_rfl) (fun _ _ _ h => h) (Or.inl ⟨by rfl, ?_⟩) (by assumption) ?_
            rotate_left
            · intro w5 hSw; (try dsimp only at hSw); go_simp; all_goals (with_reducible rfl)
            try simp only [List.getElem_toArray, List.getElem_cons_succ, List.getElem_cons_zero, Act.put, List.setIfInBounds_toArray, List.set_cons_zero, List.set_cons_succ]
            refine wpAnyH_take (i := 3) (oi := _) (v := ?_) rfl (by kernel_rfl) (by kernel_rfl) (by kernel_rfl) (fun _ _ _ h => h) (Or.inl ⟨by rfl, ?_⟩) (by assumption) ?_
            rotate_left
            · intro w5 hSw; (try dsimp only at hSw); go_simp; all_goals (with_reducible rfl)
            try simp only [List.getElem_toArray, List.getElem_cons_succ, List.getElem_cons_zero, Act.put, List.setIfInBounds_toArray, List.set_cons_zero, List.set_cons_succ]
            refine wpAnyH_take (i := 4) (oi := _) (v := ?_) rfl (by kernel_rfl) (by kernel_rfl) (by kernel_rfl) (fun _ _ _ h => h) (Or.inl ⟨by rfl, ?_⟩) (by assumption) ?_
            rotate_left
            · intro w5 hSw; (try dsimp only at hSw); go_simp; all_goals (with_reducible rfl)
            try simp only [List.getElem_toArray, List.getElem_cons_succ, List.getElem_cons_zero, Act.put, List.setIfInBounds_toArray, List.set_cons_zero, List.set_cons_succ]
            refine wpAnyH_ready (rs := [5, 9]) (by kernel_rfl) (by simp) ?_
            refine AllReadyH.cons (o := _) rfl (fun K hK => ?_) (AllReadyH.cons (o := _) rfl (fun K hK => ?_) AllReadyH.nil)
            · skip
              go_simp
              refine (ref_apply (n := m) (n1 := na) (n2 := nd) (c := cu) (c1 := c1) (c2 := c2) a b d E.nx E.lg E.sq (by rw [Hm.out]; exact (Kd.R_reads' HX9d.out.ro.ru).2.2) (by rw [Hna.out]; exact Kd.C_below G1.out HX9d.out.ro.b) (by rw [Hnd.out]; exact Kd.C_below G2.out HX9d.out.ro.b) l2 hd hesq HBd.out.1 HByE.out).mono ?_
              rintro e w13 ⟨x', l', a1', b1', d1', yv, rfl, hRR, hv, hbq⟩
              obtain ⟨rfl, rfl, rfl, rfl, rfl⟩ := apply_one HAp.out hRR
              have HX91 := Kp.mk (HX9d.out.below hbq)
              have HRy := Kp.mk (Kd.R_lower (base' := w.heap.size) hv HX9d.out.ro.b.size)
              obtain ⟨A6, c6, rfl⟩ := Kd.R_slice hv
              rw [← Hm5.out] at HRy ⊢
              clear hRR hv
              refine hK.out _ _ ⟨⟨cells_top HX91.out.ro.zw 0 _ rfl, cells_top HX91.out.ro.zw 1 _ rfl, cells_top HX91.out.ro.zw 2 _ rfl, cells_top HX91.out.ro.zw 3 _ rfl⟩, HX.out _ HX91.out.ro.b⟩ (fun hHeld1 => ?_)
              clear hK K hHeld0 HX9d hbq
              try simp only [List.getElem_toArray, List.getElem_cons_succ, List.getElem_cons_zero, Act.put, List.setIfInBounds_toArray, List.set_cons_zero, List.set_cons_succ]
              refine wpAnyH_take (i := 6) (oi := _) (v := ?_) rfl (by kernel_rfl) (by kernel_rfl) (by kernel_rfl) (fun _ _ _ h => h) (Or.inl ⟨by rfl, ?_⟩) (by assumption) ?_
              rotate_left
              · intro w5 hSw; (try dsimp only at hSw); go_simp; all_goals (with_reducible rfl)
              try simp only [List.getElem_toArray, List.getElem_cons_succ, List.getElem_cons_zero, Act.put, List.setIfInBounds_toArray, List.set_cons_zero, List.set_cons_succ]
              refine wpAnyH_take (i := 7) (oi := _) (v := ?_) rfl (by kernel_rfl) (by kernel_rfl) (by kernel_rfl) (fun _ _ _ h => h) (Or.inl ⟨by rfl, ?_⟩) (by assumption) ?_
              rotate_left
              · intro w5 hSw; (try dsimp only at hSw); go_simp; all_goals (with_reducible rfl)
              try simp only [List.getElem_toArray, List.getElem_cons_succ, List.getElem_cons_zero, Act.put, List.setIfInBounds_toArray, List.set_cons_zero, List.set_cons_succ]
              refine wpAnyH_take (i := 8) (oi := _) (v := ?_) rfl (by kernel_rfl) (by kernel_rfl) (by kernel_rfl) (fun _ _ _ h => h) (Or.inl ⟨by rfl, ?_⟩) (by assumption) ?_
              rotate_left
              · intro w5 hSw; (try dsimp only at hSw); go_simp; all_goals (with_reducible rfl)
              try simp only [List.getElem_toArray, List.getElem_cons_succ, List.getElem_cons_zero, Act.put, List.setIfInBounds_toArray, List.set_cons_zero, List.set_cons_succ]
              refine wpAnyH_ready (rs := [9]) (by kernel_rfl) (by simp) ?_
              refine AllReadyH.cons (o := _) rfl (fun K hK => ?_) AllReadyH.nil
              go_simp
              have HX92 := Kp.mk (HX91.out.below (alloc_below w13 (.cells #[.slice none 0 0, .int .i64 0, .int .i64 0, .int .u64 0] 27)))
              have HZ : Kp ((w13.alloc (.cells #[.slice none 0 0, .int .i64 0, .int .i64 0, .int .u64 0] 27)).heap[w13.heap.size]? = some (.cells #[.slice none 0 0, .int .i64 0, .int .i64 0, .int .u64 0] 27 (0, 0))) := ⟨heap_alloc_new w13 _⟩
              refine hK.out _ _ ⟨⟨cells_top HX92.out.ro.zw 0 _ rfl, cells_top HX92.out.ro.zw 1 _ rfl, cells_top HX92.out.ro.zw 2 _ rfl, cells_top HX92.out.ro.zw 3 _ rfl⟩, HX.out _ HX92.out.ro.b⟩ (fun hHeld2 => ?_)
              clear hK K hHeld1
              try simp only [List.getElem_toArray, List.getElem_cons_succ, List.getElem_cons_zero, Act.put, List.setIfInBounds_toArray, List.set_cons_zero, List.set_cons_succ]
              refine wpAnyH_ready (rs := [10]) (by kernel_rfl) (by simp) ?_
              refine AllReadyH.cons (o := _) rfl (fun K hK => ?_) AllReadyH.nil
              have z0 := cells_top HZ.out 0 _ rfl
              have y0 := free_top HZ.out 0
              have z1 := cells_top HZ.out 1 _ rfl
              have y1 := free_top HZ.out 1
              have z2 := cells_top HZ.out 2 _ rfl
              have y2 := free_top HZ.out 2
              have z3 := cells_top HZ.out 3 _ rfl
              have y3 := free_top HZ.out 3
              go_simp
              have HX93 := Kp.mk (HX91.out.below (alloc_below w13 (.cells #[.slice A6 m5 c6, .int .i64 a1', .int .i64 b1', .int .u64 d1'] 27)))
              have HZ3 : Kp ((w13.alloc (.cells #[.slice A6 m5 c6, .int .i64 a1', .int .i64 b1', .int .u64 d1'] 27)).heap[w13.heap.size]? = some (.cells #[.slice A6 m5 c6, .int .i64 a1', .int .i64 b1', .int .u64 d1'] 27 (0, 0))) := ⟨heap_alloc_new w13 _⟩
              have HR3y := Kp.mk (Kd.R_alloc HRy.out (.cells #[.slice A6 m5 c6, .int .i64 a1', .int .i64 b1', .int .u64 d1'] 27))
              have HP3 : Kp (P8 < w13.heap.size) := ⟨lt_of_block HX91.out.zx⟩
              have HQ3 : Kp (w.heap.size ≤ w13.heap.size) := ⟨HX91.out.ro.b.size⟩
              refine hK.out _ _ ⟨⟨cells_top HX93.out.ro.zw 0 _ rfl, cells_top HX93.out.ro.zw 1 _ rfl, cells_top HX93.out.ro.zw 2 _ rfl, cells_top HX93.out.ro.zw 3 _ rfl⟩, HX.out _ HX93.out.ro.b⟩ (fun hHeld3 => ?_)
              clear hK K hHeld2 z0 z1 z2 z3 y0 y1 y2 y3 HZ HX91 HX92 HRy
              try simp only [List.getElem_toArray, List.getElem_cons_succ, List.getElem_cons_zero, Act.put, List.setIfInBounds_toArray, List.set_cons_zero, List.set_cons_succ]
              refine wpAnyH_take (i := 11) (oi := _) (v := ?_) rfl (by kernel_rfl) (by kernel_rfl) (by kernel_rfl) (fun _ _ _ h => h) (Or.inl ⟨by rfl, ?_⟩) (by assumption) ?_
              rotate_left
              · intro w5 hSw; (try dsimp only at hSw); go_simp; all_goals (with_reducible rfl)
              try simp only [List.getElem_toArray, List.getElem_cons_succ, List.getElem_cons_zero, Act.put, List.setIfInBounds_toArray, List.set_cons_zero, List.set_cons_succ]
              refine wpAnyH_done (by kernel_rfl) ?_ _
              clear hHeld3
              have c8a := (Kd.R_reads' HX93.out.rx).2.2
              have c8b := (Kd.R_reads' HR3y.out).2.2
              rw [← Hm5.out] at c8a c8b
              have HC8a := Kp.mk c8a
              have HC8b := Kp.mk c8b
              clear c8a c8b
              have hd1 := apply_sq HAp.out hd
              have s0 := cells_top HX93.out.zx 0 (.slice A5 m5 c5) rfl
              have s1 := cells_top HX93.out.zx 1 (.int .i64 a1') rfl
              have s2 := cells_top HX93.out.zx 2 (.int .i64 b1') rfl
              have s3 := cells_top HX93.out.zx 3 (.int .u64 d1') rfl
              have t0 := cells_top HZ3.out 0 (.slice A6 m5 c6) rfl
              have t1 := cells_top HZ3.out 1 (.int .i64 a1') rfl
              have t2 := cells_top HZ3.out 2 (.int .i64 b1') rfl
              have t3 := cells_top HZ3.out 3 (.int .u64 d1') rfl
              go_wp2_with fail
              refine (num_any _ _).mono ?_
              rintro e w9 ⟨rfl, rfl⟩
              go_wp2_with fail
              refine (same_version a1' b1' d1' HC8a.out HC8b.out).mono ?_
              rintro e w14 ⟨rfl, hbq⟩
              have HXe := Kp.mk (HX93.out.below hbq)
              have HZe := Kp.mk ((hbq.block _ (lt_of_block HZ3.out)).trans HZ3.out)
              have HRe := Kp.mk (Kd.R_below HR3y.out hbq)
              clear hbq s0 s1 s2 s3 t0 t1 t2 t3
              by_cases hx0 : x' = 0
              · subst hx0
                have HNx := Kp.mk (And.intro (apply_byt HAp.out HBd.out.1 HByE.out) hd1)
                have s0 := cells_top HXe.out.zx 0 (.slice A5 m5 c5) rfl
                have s1 := cells_top HXe.out.zx 1 (.int .i64 a1') rfl
                have s2 := cells_top HXe.out.zx 2 (.int .i64 b1') rfl
                have s3 := cells_top HXe.out.zx 3 (.int .u64 d1') rfl
                have t0 := cells_top HZe.out 0 (.slice A6 m5 c6) rfl
                have t1 := cells_top HZe.out 1 (.int .i64 a1') rfl
                have t2 := cells_top HZe.out 2 (.int .i64 b1') rfl
                have t3 := cells_top HZe.out 3 (.int .u64 d1') rfl
                have p0 := cells_top HXe.out.ro.zv 0 (.slice Av m cv) rfl
                have f0 := free_top HXe.out.ro.zv 0
                have p1 := cells_top HXe.out.ro.zv 1 (.int .i64 a) rfl
                have f1 := free_top HXe.out.ro.zv 1
                have p2 := cells_top HXe.out.ro.zv 2 (.int .i64 b) rfl
                have f2 := free_top HXe.out.ro.zv 2
                have p3 := cells_top HXe.out.ro.zv 3 (.int .u64 d) rfl
                have f3 := free_top HXe.out.ro.zv 3
                have q0 := cells_top HXe.out.ro.zw 0 (.slice Au m cu) rfl
                have r0 := free_top HXe.out.ro.zw 0
                have q1 := cells_top HXe.out.ro.zw 1 (.int .i64 a) rfl
                have r1 := free_top HXe.out.ro.zw 1
                have q2 := cells_top HXe.out.ro.zw 2 (.int .i64 b) rfl
                have r2 := free_top HXe.out.ro.zw 2
                have q3 := cells_top HXe.out.ro.zw 3 (.int .u64 d) rfl
                have r3 := free_top HXe.out.ro.zw 3
                have n1 : pv ≠ w13.heap.size := by have := HP3.out; have := HXe.out.hp; omega
                have n2 : pv + 1 ≠ w13.heap.size := by have := HP3.out; have := HXe.out.hp; omega
                have n3 : w13.heap.size ≠ pv := by have := HP3.out; have := HXe.out.hp; omega
                have n4 : w13.heap.size ≠ pv + 1 := by have := HP3.out; have := HXe.out.hp; omega
                have n5 : P8 ≠ pv := by have := HXe.out.hp; omega
                have n6 : P8 ≠ pv + 1 := by have := HXe.out.hp; omega
                have HNr := Kp.mk (ro_next HXe.out.ro HXe.out.rx HRe.out HG.out a1' b1' d1')
                go_wp2_with fail
                go_roundw
                case rel => exact ⟨k + 1, _, _, _, _, _, _, by omega, by go_num, HNr, HNx⟩
                case measure => simp [intOf]; omega
              · have hxb : (x' == 0) = false := by simpa using hx0
                clear hx0
                go_wp2_with fail
                go_roundw
                case rel => exact ⟨k + 1, _, _, _, _, _, _, by omega, by go_num, ⟨HXe.out.ro⟩, HBd⟩
                case measure => simp [intOf]; omega
            · skip
              go_simp
              have HX91 := Kp.mk (HX9d.out.below (alloc_below _ (.cells #[.slice none 0 0, .int .i64 0, .int .i64 0, .int .u64 0] 27)))
              have HZ : Kp ((World.alloc _ (.cells #[.slice none 0 0, .int .i64 0, .int .i64 0, .int .u64 0] 27)).heap[w13a.heap.size]? = some (.cells #[.slice none 0 0, .int .i64 0, .int .i64 0, .int .u64 0] 27 (0, 0))) := ⟨by have := heap_alloc_new w13a.drew (.cells #[.slice none 0 0, .int .i64 0, .int .i64 0, .int .u64 0] 27); exact this⟩
              have HP3 : Kp (P8 < w13a.heap.size) := ⟨by have := lt_of_block HX9d.out.zx; simpa using this⟩
              have HQ3 : Kp (w.heap.size ≤ w13a.heap.size) := ⟨by have := HX9d.out.ro.b.size; simpa using this⟩
              refine hK.out _ _ ⟨⟨cells_top HX91.out.ro.zw 0 _ rfl, cells_top HX91.out.ro.zw 1 _ rfl, cells_top HX91.out.ro.zw 2 _ rfl, cells_top HX91.out.ro.zw 3 _ rfl⟩, HX.out _ HX91.out.ro.b⟩ (fun hHeld1 => ?_)
              clear hK K hHeld0 HX9d
              try simp only [List.getElem_toArray, List.getElem_cons_succ, List.getElem_cons_zero, Act.put, List.setIfInBounds_toArray, List.set_cons_zero, List.set_cons_succ]
              refine wpAnyH_ready (rs := [5]) (by kernel_rfl) (by simp) ?_
              refine AllReadyH.cons (o := _) rfl (fun K hK => ?_) AllReadyH.nil
              go_simp
              refine (ref_apply (n := m) (n1 := na) (n2 := nd) (c := cu) (c1 := c1) (c2 := c2) a b d E.nx E.lg E.sq (by rw [Hm.out]; exact (Kd.R_reads' HX91.out.ro.ru).2.2) (by rw [Hna.out]; exact Kd.C_below G1.out HX91.out.ro.b) (by rw [Hnd.out]; exact Kd.C_below G2.out HX91.out.ro.b) l2 hd hesq HBd.out.1 HByE.out).mono ?_
              rintro e w13 ⟨x', l', a1', b1', d1', yv, rfl, hRR, hv, hbq⟩
              obtain ⟨rfl, rfl, rfl, rfl, rfl⟩ := apply_one HAp.out hRR
              have HX92 := Kp.mk (HX91.out.below hbq)
              have HRy := Kp.mk (Kd.R_lower (base' := w.heap.size) hv HX91.out.ro.b.size)
              obtain ⟨A6, c6, rfl⟩ := Kd.R_slice hv
              rw [← Hm5.out] at HRy ⊢
              clear hRR hv
              have HZ2 := Kp.mk ((hbq.block _ (lt_of_block HZ.out)).trans HZ.out)
              refine hK.out _ _ ⟨⟨cells_top HX92.out.ro.zw 0 _ rfl, cells_top HX92.out.ro.zw 1 _ rfl, cells_top HX92.out.ro.zw 2 _ rfl, cells_top HX92.out.ro.zw 3 _ rfl⟩, HX.out _ HX92.out.ro.b⟩ (fun hHeld2 => ?_)
              clear hK K hHeld1 HX91 hbq HZ
              try simp only [List.getElem_toArray, List.getElem_cons_succ, List.getElem_cons_zero, Act.put, List.setIfInBounds_toArray, List.set_cons_zero, List.set_cons_succ]
              refine wpAnyH_take (i := 6) (oi := _) (v := ?_) rfl (by kernel_rfl) (by kernel_rfl) (by kernel_rfl) (fun _ _ _ h => h) (Or.inl ⟨by rfl, ?_⟩) (by assumption) ?_
              rotate_left
              · intro w5 hSw; (try dsimp only at hSw); go_simp; all_goals (with_reducible rfl)
              try simp only [List.getElem_toArray, List.getElem_cons_succ, List.getElem_cons_zero, Act.put, List.setIfInBounds_toArray, List.set_cons_zero, List.set_cons_succ]
              refine wpAnyH_take (i := 7) (oi := _) (v := ?_) rfl (by kernel_rfl) (by kernel_rfl) (by kernel_rfl) (fun _ _ _ h => h) (Or.inl ⟨by rfl, ?_⟩) (by assumption) ?_
              rotate_left
              · intro w5 hSw; (try dsimp only at hSw); go_simp; all_goals (with_reducible rfl)
              try simp only [List.getElem_toArray, List.getElem_cons_succ, List.getElem_cons_zero, Act.put, List.setIfInBounds_toArray, List.set_cons_zero, List.set_cons_succ]
              refine wpAnyH_take (i := 8) (oi := _) (v := ?_) rfl (by kernel_rfl) (by kernel_rfl) (by kernel_rfl) (fun _ _ _ h => h) (Or.inl ⟨by rfl, ?_⟩) (by assumption) ?_
              rotate_left
              · intro w5 hSw; (try dsimp only at hSw); go_simp; all_goals (with_reducible rfl)
              try simp only [List.getElem_toArray, List.getElem_cons_succ, List.getElem_cons_zero, Act.put, List.setIfInBounds_toArray, List.set_cons_zero, List.set_cons_succ]
              refine wpAnyH_ready (rs := [10]) (by kernel_rfl) (by simp) ?_
              refine AllReadyH.cons (o := _) rfl (fun K hK => ?_) AllReadyH.nil
              have z0 := cells_top HZ2.out 0 _ rfl
              have y0 := free_top HZ2.out 0
              have z1 := cells_top HZ2.out 1 _ rfl
              have y1 := free_top HZ2.out 1
              have z2 := cells_top HZ2.out 2 _ rfl
              have y2 := free_top HZ2.out 2
              have z3 := cells_top HZ2.out 3 _ rfl
              have y3 := free_top HZ2.out 3
              go_simp
              have HX93 := Kp.mk (HX92.out.put HZ2.out HP3.out HQ3.out (.slice A6 m5 c6) (.int .i64 a1') (.int .i64 b1') (.int .u64 d1'))
              have HZ3 := Kp.mk (laid4 HZ2.out (.slice A6 m5 c6) (.int .i64 a1') (.int .i64 b1') (.int .u64 d1'))
              have HR3y := Kp.mk (put_R HRy.out HZ2.out (.slice A6 m5 c6) (.int .i64 a1') (.int .i64 b1') (.int .u64 d1'))
              refine hK.out _ _ ⟨⟨cells_top HX93.out.ro.zw 0 _ rfl, cells_top HX93.out.ro.zw 1 _ rfl, cells_top HX93.out.ro.zw 2 _ rfl, cells_top HX93.out.ro.zw 3 _ rfl⟩, HX.out _ HX93.out.ro.b⟩ (fun hHeld3 => ?_)
              clear hK K hHeld2 z0 z1 z2 z3 y0 y1 y2 y3 HZ2 HX92 HRy
              try simp only [List.getElem_toArray, List.getElem_cons_succ, List.getElem_cons_zero, Act.put, List.setIfInBounds_toArray, List.set_cons_zero, List.set_cons_succ]
              refine wpAnyH_take (i := 11) (oi := _) (v := ?_) rfl (by kernel_rfl) (by kernel_rfl) (by kernel_rfl) (fun _ _ _ h => h) (Or.inl ⟨by rfl, ?_⟩) (by assumption) ?_
              rotate_left
              · intro w5 hSw; (try dsimp only at hSw); go_simp; all_goals (with_reducible rfl)
              try simp only [List.getElem_toArray, List.getElem_cons_succ, List.getElem_cons_zero, Act.put, List.setIfInBounds_toArray, List.set_cons_zero, List.set_cons_succ]
              refine wpAnyH_done (by kernel_rfl) ?_ _
              clear hHeld3
              have c8a := (Kd.R_reads' HX93.out.rx).2.2
              have c8b := (Kd.R_reads' HR3y.out).2.2
              rw [← Hm5.out] at c8a c8b
              have HC8a := Kp.mk c8a
              have HC8b := Kp.mk c8b
              clear c8a c8b
              have hd1 := apply_sq HAp.out hd
              have s0 := cells_top HX93.out.zx 0 (.slice A5 m5 c5) rfl
              have s1 := cells_top HX93.out.zx 1 (.int .i64 a1') rfl
              have s2 := cells_top HX93.out.zx 2 (.int .i64 b1') rfl
              have s3 := cells_top HX93.out.zx 3 (.int .u64 d1') rfl
              have t0 := cells_top HZ3.out 0 (.slice A6 m5 c6) rfl
              have t1 := cells_top HZ3.out 1 (.int .i64 a1') rfl
              have t2 := cells_top HZ3.out 2 (.int .i64 b1') rfl
              have t3 := cells_top HZ3.out 3 (.int .u64 d1') rfl
              go_wp2_with fail
              refine (num_any _ _).mono ?_
              rintro e w9 ⟨rfl, rfl⟩
              go_wp2_with fail
              refine (same_version a1' b1' d1' HC8a.out HC8b.out).mono ?_
              rintro e w14 ⟨rfl, hbq⟩
              have HXe := Kp.mk (HX93.out.below hbq)
              have HZe := Kp.mk ((hbq.block _ (lt_of_block HZ3.out)).trans HZ3.out)
              have HRe := Kp.mk (Kd.R_below HR3y.out hbq)
              clear hbq s0 s1 s2 s3 t0 t1 t2 t3
              by_cases hx0 : x' = 0
              · subst hx0
                have HNx := Kp.mk (And.intro (apply_byt HAp.out HBd.out.1 HByE.out) hd1)
                have s0 := cells_top HXe.out.zx 0 (.slice A5 m5 c5) rfl
                have s1 := cells_top HXe.out.zx 1 (.int .i64 a1') rfl
                have s2 := cells_top HXe.out.zx 2 (.int .i64 b1') rfl
                have s3 := cells_top HXe.out.zx 3 (.int .u64 d1') rfl
                have t0 := cells_top HZe.out 0 (.slice A6 m5 c6) rfl
                have t1 := cells_top HZe.out 1 (.int .i64 a1') rfl
                have t2 := cells_top HZe.out 2 (.int .i64 b1') rfl
                have t3 := cells_top HZe.out 3 (.int .u64 d1') rfl
                have p0 := cells_top HXe.out.ro.zv 0 (.slice Av m cv) rfl
                have f0 := free_top HXe.out.ro.zv 0
                have p1 := cells_top HXe.out.ro.zv 1 (.int .i64 a) rfl
                have f1 := free_top HXe.out.ro.zv 1
                have p2 := cells_top HXe.out.ro.zv 2 (.int .i64 b) rfl
                have f2 := free_top HXe.out.ro.zv 2
                have p3 := cells_top HXe.out.ro.zv 3 (.int .u64 d) rfl
                have f3 := free_top HXe.out.ro.zv 3
                have q0 := cells_top HXe.out.ro.zw 0 (.slice Au m cu) rfl
                have r0 := free_top HXe.out.ro.zw 0
                have q1 := cells_top HXe.out.ro.zw 1 (.int .i64 a) rfl
                have r1 := free_top HXe.out.ro.zw 1
                have q2 := cells_top HXe.out.ro.zw 2 (.int .i64 b) rfl
                have r2 := free_top HXe.out.ro.zw 2
                have q3 := cells_top HXe.out.ro.zw 3 (.int .u64 d) rfl
                have r3 := free_top HXe.out.ro.zw 3
                have n1 : pv ≠ w13a.heap.size := by have := HP3.out; have := HXe.out.hp; omega
                have n2 : pv + 1 ≠ w13a.heap.size := by have := HP3.out; have := HXe.out.hp; omega
                have n3 : w13a.heap.size ≠ pv := by have := HP3.out; have := HXe.out.hp; omega
                have n4 : w13a.heap.size ≠ pv + 1 := by have := HP3.out; have := HXe.out.hp; omega
                have n5 : P8 ≠ pv := by have := HXe.out.hp; omega
                have n6 : P8 ≠ pv + 1 := by have := HXe.out.hp; omega
                have HNr := Kp.mk (ro_next HXe.out.ro HXe.out.rx HRe.out HG.out a1' b1' d1')
                go_wp2_with fail
                go_roundw
                case rel => exact ⟨k + 1, _, _, _, _, _, _, by omega, by go_num, HNr, HNx⟩
                case measure => simp [intOf]; omega
              · have hxb : (x' == 0) = false := by simpa using hx0
                clear hx0
                go_wp2_with fail
                go_roundw
                case rel => exact ⟨k + 1, _, _, _, _, _, _, by omega, by go_num, ⟨HXe.out.ro⟩, HBd⟩
                case measure => simp [intOf]; omega
          · skip
            go_simp
            have HR31 := Kp.mk (HR3d.out.below (alloc_below _ (.cells #[.slice none 0 0, .int .i64 0, .int .i64 0, .int .u64 0] 27)))
            have HZ : Kp ((World.alloc _ (.cells #[.slice none 0 0, .int .i64 0, .int .i64 0, .int .u64 0] 27)).heap[w3.heap.size]? = some (.cells #[.slice none 0 0, .int .i64 0, .int .i64 0, .int .u64 0] 27 (0, 0))) := ⟨by have := heap_alloc_new w3.drew (.cells #[.slice none 0 0, .int .i64 0, .int .i64 0, .int .u64 0] 27); exact this⟩
            have HP3 : Kp (pv + 1 < w3.heap.size) := ⟨by have := lt_of_block HR3d.out.zw; simpa using this⟩
            have HQ3 : Kp (w.heap.size ≤ w3.heap.size) := ⟨by have := HR3d.out.b.size; simpa using this⟩
            refine hK.out _ _ ⟨⟨cells_top HR31.out.zv 0 _ rfl, cells_top HR31.out.zv 1 _ rfl, cells_top HR31.out.zv 2 _ rfl, cells_top HR31.out.zv 3 _ rfl⟩, HX.out _ HR31.out.b⟩ (fun hHeld1 => ?_)
            clear hK K hHeld0 HR3d
            try simp only [List.getElem_toArray, List.getElem_cons_succ, List.getElem_cons_zero, Act.put, List.setIfInBounds_toArray, List.set_cons_zero, List.set_cons_succ]
            refine wpAnyH_ready (rs := [5]) (by kernel_rfl) (by simp) ?_
            refine AllReadyH.cons (o := _) rfl (fun K hK => ?_) AllReadyH.nil
            go_simp
            refine (by have := version_apply (c := cv) (c1 := c1) (c2 := c2) a b d E.nx E.lg E.sq (Kd.R_reads' HR31.out.rv).2.2 (by have := (Kd.R_reads' HR31.out.rv).2.1; rwa [Hm.out] at this) (Kd.C_below G1.out HR31.out.b) (Kd.C_below G2.out HR31.out.b) hd hesq; rwa [← Hm.out, ← Hna.out, ← Hnd.out] at this : Calls _ _ _ _ _).mono ?_
            rintro e w12 ⟨x, l, a1, b1, d1, yv, rfl, hRR, hv, hbq⟩
            have HR32 := Kp.mk (HR31.out.below hbq)
            have HRy := Kp.mk (Kd.R_lower (base' := w.heap.size) hv HR31.out.b.size)
            have HAp := Kp.mk hRR
            obtain ⟨A5, c5, rfl⟩ := Kd.R_slice hv
            obtain ⟨m5, hm5⟩ : ∃ m5, m5 = l.length := ⟨_, rfl⟩
            rw [← hm5] at HRy ⊢
            have Hm5 := Kp.mk hm5
            clear hm5 hRR hv
            have HZ2 := Kp.mk ((hbq.block _ (lt_of_block HZ.out)).trans HZ.out)
            refine hK.out _ _ ⟨⟨cells_top HR32.out.zv 0 _ rfl, cells_top HR32.out.zv 1 _ rfl, cells_top HR32.out.zv 2 _ rfl, cells_top HR32.out.zv 3 _ rfl⟩, HX.out _ HR32.out.b⟩ (fun hHeld2 => ?_)
            clear hK K hHeld1 HR31 hbq HZ
            try simp only [List.getElem_toArray, List.getElem_cons_succ, List.getElem_cons_zero, Act.put, List.setIfInBounds_toArray, List.set_cons_zero, List.set_cons_succ]
            refine wpAnyH_take (i := 6) (oi := _) (v := ?_) rfl (by kernel_rfl) (by kernel_rfl) (by kernel_rfl) (fun _ _ _ h => h) (Or.inl ⟨by rfl, ?_⟩) (by assumption) ?_
            rotate_left
            · intro w5 hSw; (try dsimp only at hSw); go_simp; all_goals (with_reducible rfl)
            try simp only [List.getElem_toArray, List.getElem_cons_succ, List.getElem_cons_zero, Act.put, List.setIfInBounds_toArray, List.set_cons_zero, List.set_cons_succ]
            refine wpAnyH_take (i := 7) (oi := _) (v := ?_) rfl (by kernel_rfl) (by kernel_rfl) (by kernel_rfl) (fun _ _ _ h => h) (Or.inl ⟨by rfl, ?_⟩) (by assumption) ?_
            rotate_left
            · intro w5 hSw; (try dsimp only at hSw); go_simp; all_goals (with_reducible rfl)
            try simp only [List.getElem_toArray, List.getElem_cons_succ, List.getElem_cons_zero, Act.put, List.setIfInBounds_toArray, List.set_cons_zero, List.set_cons_succ]
            refine wpAnyH_take (i := 8) (oi := _) (v := ?_) rfl (by kernel_rfl) (by kernel_rfl) (by kernel_rfl) (fun _ _ _ h => h) (Or.inl ⟨by rfl, ?_⟩) (by assumption) ?_
            rotate_left
            · intro w5 hSw; (try dsimp only at hSw); go_simp; all_goals (with_reducible rfl)
            try simp only [List.getElem_toArray, List.getElem_cons_succ, List.getElem_cons_zero, Act.put, List.setIfInBounds_toArray, List.set_cons_zero, List.set_cons_succ]
            refine wpAnyH_ready (rs := [10]) (by kernel_rfl) (by simp) ?_
            refine AllReadyH.cons (o := _) rfl (fun K hK => ?_) AllReadyH.nil
            have z0 := cells_top HZ2.out 0 _ rfl
            have y0 := free_top HZ2.out 0
            have z1 := cells_top HZ2.out 1 _ rfl
            have y1 := free_top HZ2.out 1
            have z2 := cells_top HZ2.out 2 _ rfl
            have y2 := free_top HZ2.out 2
            have z3 := cells_top HZ2.out 3 _ rfl
            have y3 := free_top HZ2.out 3
            go_simp
            have HR33 := Kp.mk (HR32.out.put HZ2.out HP3.out HQ3.out (.slice A5 m5 c5) (.int .i64 a1) (.int .i64 b1) (.int .u64 d1))
            have HZ3 := Kp.mk (laid4 HZ2.out (.slice A5 m5 c5) (.int .i64 a1) (.int .i64 b1) (.int .u64 d1))
            have HR3y := Kp.mk (put_R HRy.out HZ2.out (.slice A5 m5 c5) (.int .i64 a1) (.int .i64 b1) (.int .u64 d1))
            refine hK.out _ _ ⟨⟨cells_top HR33.out.zv 0 _ rfl, cells_top HR33.out.zv 1 _ rfl, cells_top HR33.out.zv 2 _ rfl, cells_top HR33.out.zv 3 _ rfl⟩, HX.out _ HR33.out.b⟩ (fun hHeld3 => ?_)
            clear hK K hHeld2 z0 z1 z2 z3 y0 y1 y2 y3 HZ2 HR32 HRy
            try simp only [List.getElem_toArray, List.getElem_cons_succ, List.getElem_cons_zero, Act.put, List.setIfInBounds_toArray, List.set_cons_zero, List.set_cons_succ]
            refine wpAnyH_take (i := 11) (oi := _) (v := ?_) rfl (by kernel_rfl) (by kernel_rfl) (by kernel_rfl) (fun _ _ _ h => h) (Or.inl ⟨by rfl, ?_⟩) (by assumption) ?_
            rotate_left
            · intro w5 hSw; (try dsimp only at hSw); go_simp; all_goals (with_reducible rfl)
            try simp only [List.getElem_toArray, List.getElem_cons_succ, List.getElem_cons_zero, Act.put, List.setIfInBounds_toArray, List.set_cons_zero, List.set_cons_succ]
            refine wpAnyH_done (by kernel_rfl) ?_ _
            clear hHeld3
            have HX8 := Kp.mk (Rx.mk HR33.out HZ3.out HR3y.out HP3.out HQ3.out)
            clear HR33 HZ3 HR3y HP3 HQ3
            obtain ⟨P8, hP8⟩ : ∃ P8, P8 = w3.heap.size := ⟨_, rfl⟩
            rw [← hP8] at HX8 ⊢
            clear hP8
            go_wp2_with fail
            obtain ⟨w13a, hw13a, HX9⟩ : ∃ w13a, w13a = _ ∧ Kp (Rx w w13a pv (.slice Av m cv) (.slice Au m cu) a b d rs P8 (.slice A5 m5 c5) a1 b1 d1 l) := ⟨_, rfl, HX8⟩
            rw [← hw13a]
            clear hw13a HX8
            have HX9d := Kp.mk (HX9.out.below (drew_below' _))
            refine wp_region_held_drew (S := fun W => (W.cell? ⟨pv + 1, 0, none⟩ = some (.slice Au m cu) ∧ W.cell? ⟨pv + 1, 1, none⟩ = some (.int .i64 a) ∧ W.cell? ⟨pv + 1, 2, none⟩ = some (.int .i64 b) ∧ W.cell? ⟨pv + 1, 3, none⟩ = some (.int .u64 d)) ∧ W.cell? (ad.add (k * 5)) = some (.slice A1 na c1) ∧ W.cell? ⟨(ad.add (k * 5)).block, (ad.add (k * 5)).off + 1, none⟩ = some (.slice A2 nd c2) ∧ W.cell? ⟨(ad.add (k * 5)).block, (ad.add (k * 5)).off + 2, none⟩ = some (.int .i64 E.nx) ∧ W.cell? ⟨(ad.add (k * 5)).block, (ad.add (k * 5)).off + 3, none⟩ = some (.int .i64 E.lg) ∧ W.cell? ⟨(ad.add (k * 5)).block, (ad.add (k * 5)).off + 4, none⟩ = some (.int .u64 E.sq)) (by kernel_rfl) ⟨⟨cells_top HX9d.out.ro.zw 0 _ rfl, cells_top HX9d.out.ro.zw 1 _ rfl, cells_top HX9d.out.ro.zw 2 _ rfl, cells_top HX9d.out.ro.zw 3 _ rfl⟩, HX.out _ HX9d.out.ro.b⟩ (fun hHeld0 => ?_)
            clear HX9
            refine wpAnyH_take (i := 0) (oi := _) (v := ?_) rfl (by kernel_rfl) (by kernel_rfl) (by kernel_rfl) (fun _ _ _ h => h) (Or.inl ⟨by rfl, ?_⟩) (by assumption) ?_
            rotate_left
            · intro w5 hSw; (try dsimp only at hSw); go_simp; all_goals (with_reducible rfl)
            try simp only [List.getElem_toArray, List.getElem_cons_succ, List.getElem_cons_zero, Act.put, List.setIfInBounds_toArray, List.set_cons_zero, List.set_cons_succ]
            refine wpAnyH_take (i := 1) (oi := _) (v := ?_) rfl (by kernel_rfl) (by kernel_rfl) (by kernel_rfl) (fun _ _ _ h => h) (Or.inl ⟨by rfl, ?_⟩) (by assumption) ?_
            rotate_left
            · intro w5 hSw; (try dsimp only at hSw); go_simp; all_goals (with_reducible rfl)
            try simp only [List.getElem_toArray, List.getElem_cons_succ, List.getElem_cons_zero, Act.put, List.setIfInBounds_toArray, List.set_cons_zero, List.set_cons_succ]
            refine wpAnyH_take (i := 2) (oi := _) (v := ?_) rfl (by kernel_rfl) (by kernel_rfl) (by kernel_rfl) (fun _ _ _ h => h) (Or.inl ⟨by rfl, ?_⟩) (by assumption) ?_
            rotate_left
            · intro w5 hSw; (try dsimp only at hSw); go_simp; all_goals (with_reducible rfl)
            try simp only [List.getElem_toArray, List.getElem_cons_succ, List.getElem_cons_zero, Act.put, List.setIfInBounds_toArray, List.set_cons_zero, List.set_cons_succ]
            refine wpAnyH_take (i := 3) (oi := _) (v := ?_) rfl (by kernel_rfl) (by kernel_rfl) (by kernel_rfl) (fun _ _ _ h => h) (Or.inl ⟨by rfl, ?_⟩) (by assumption) ?_
            rotate_left
            · intro w5 hSw; (try dsimp only at hSw); go_simp; all_goals (with_reducible rfl)
            try simp only [List.getElem_toArray, List.getElem_cons_succ, List.getElem_cons_zero, Act.put, List.setIfInBounds_toArray, List.set_cons_zero, List.set_cons_succ]
            refine wpAnyH_take (i := 4) (oi := _) (v := ?_) rfl (by kernel_rfl) (by kernel_rfl) (by kernel_rfl) (fun _ _ _ h => h) (Or.inl ⟨by rfl, ?_⟩) (by assumption) ?_
            rotate_left
            · intro w5 hSw; (try dsimp only at hSw); go_simp; all_goals (with_reducible rfl)
            try simp only [List.getElem_toArray, List.getElem_cons_succ, List.getElem_cons_zero, Act.put, List.setIfInBounds_toArray, List.set_cons_zero, List.set_cons_succ]
            refine wpAnyH_ready (rs := [5, 9]) (by kernel_rfl) (by simp) ?_
            refine AllReadyH.cons (o := _) rfl (fun K hK => ?_) (AllReadyH.cons (o := _) rfl (fun K hK => ?_) AllReadyH.nil)
            · skip
              go_simp
              refine (ref_apply (n := m) (n1 := na) (n2 := nd) (c := cu) (c1 := c1) (c2 := c2) a b d E.nx E.lg E.sq (by rw [Hm.out]; exact (Kd.R_reads' HX9d.out.ro.ru).2.2) (by rw [Hna.out]; exact Kd.C_below G1.out HX9d.out.ro.b) (by rw [Hnd.out]; exact Kd.C_below G2.out HX9d.out.ro.b) l2 hd hesq HBd.out.1 HByE.out).mono ?_
              rintro e w13 ⟨x', l', a1', b1', d1', yv, rfl, hRR, hv, hbq⟩
              obtain ⟨rfl, rfl, rfl, rfl, rfl⟩ := apply_one HAp.out hRR
              have HX91 := Kp.mk (HX9d.out.below hbq)
              have HRy := Kp.mk (Kd.R_lower (base' := w.heap.size) hv HX9d.out.ro.b.size)
              obtain ⟨A6, c6, rfl⟩ := Kd.R_slice hv
              rw [← Hm5.out] at HRy ⊢
              clear hRR hv
              refine hK.out _ _ ⟨⟨cells_top HX91.out.ro.zw 0 _ rfl, cells_top HX91.out.ro.zw 1 _ rfl, cells_top HX91.out.ro.zw 2 _ rfl, cells_top HX91.out.ro.zw 3 _ rfl⟩, HX.out _ HX91.out.ro.b⟩ (fun hHeld1 => ?_)
              clear hK K hHeld0 HX9d hbq
              try simp only [List.getElem_toArray, List.getElem_cons_succ, List.getElem_cons_zero, Act.put, List.setIfInBounds_toArray, List.set_cons_zero, List.set_cons_succ]
              refine wpAnyH_take (i := 6) (oi := _) (v := ?_) rfl (by kernel_rfl) (by kernel_rfl) (by kernel_rfl) (fun _ _ _ h => h) (Or.inl ⟨by rfl, ?_⟩) (by assumption) ?_
              rotate_left
              · intro w5 hSw; (try dsimp only at hSw); go_simp; all_goals (with_reducible rfl)
              try simp only [List.getElem_toArray, List.getElem_cons_succ, List.getElem_cons_zero, Act.put, List.setIfInBounds_toArray, List.set_cons_zero, List.set_cons_succ]
              refine wpAnyH_take (i := 7) (oi := _) (v := ?_) rfl (by kernel_rfl) (by kernel_rfl) (by kernel_rfl) (fun _ _ _ h => h) (Or.inl ⟨by rfl, ?_⟩) (by assumption) ?_
              rotate_left
              · intro w5 hSw; (try dsimp only at hSw); go_simp; all_goals (with_reducible rfl)
              try simp only [List.getElem_toArray, List.getElem_cons_succ, List.getElem_cons_zero, Act.put, List.setIfInBounds_toArray, List.set_cons_zero, List.set_cons_succ]
              refine wpAnyH_take (i := 8) (oi := _) (v := ?_) rfl (by kernel_rfl) (by kernel_rfl) (by kernel_rfl) (fun _ _ _ h => h) (Or.inl ⟨by rfl, ?_⟩) (by assumption) ?_
              rotate_left
              · intro w5 hSw; (try dsimp only at hSw); go_simp; all_goals (with_reducible rfl)
              try simp only [List.getElem_toArray, List.getElem_cons_succ, List.getElem_cons_zero, Act.put, List.setIfInBounds_toArray, List.set_cons_zero, List.set_cons_succ]
              refine wpAnyH_ready (rs := [9]) (by kernel_rfl) (by simp) ?_
              refine AllReadyH.cons (o := _) rfl (fun K hK => ?_) AllReadyH.nil
              go_simp
              have HX92 := Kp.mk (HX91.out.below (alloc_below w13 (.cells #[.slice none 0 0, .int .i64 0, .int .i64 0, .int .u64 0] 27)))
              have HZ : Kp ((w13.alloc (.cells #[.slice none 0 0, .int .i64 0, .int .i64 0, .int .u64 0] 27)).heap[w13.heap.size]? = some (.cells #[.slice none 0 0, .int .i64 0, .int .i64 0, .int .u64 0] 27 (0, 0))) := ⟨heap_alloc_new w13 _⟩
              refine hK.out _ _ ⟨⟨cells_top HX92.out.ro.zw 0 _ rfl, cells_top HX92.out.ro.zw 1 _ rfl, cells_top HX92.out.ro.zw 2 _ rfl, cells_top HX92.out.ro.zw 3 _ rfl⟩, HX.out _ HX92.out.ro.b⟩ (fun hHeld2 => ?_)
              clear hK K hHeld1
              try simp only [List.getElem_toArray, List.getElem_cons_succ, List.getElem_cons_zero, Act.put, List.setIfInBounds_toArray, List.set_cons_zero, List.set_cons_succ]
              refine wpAnyH_ready (rs := [10]) (by kernel_rfl) (by simp) ?_
              refine AllReadyH.cons (o := _) rfl (fun K hK => ?_) AllReadyH.nil
              have z0 := cells_top HZ.out 0 _ rfl
              have y0 := free_top HZ.out 0
              have z1 := cells_top HZ.out 1 _ rfl
              have y1 := free_top HZ.out 1
              have z2 := cells_top HZ.out 2 _ rfl
              have y2 := free_top HZ.out 2
              have z3 := cells_top HZ.out 3 _ rfl
              have y3 := free_top HZ.out 3
              go_simp
              have HX93 := Kp.mk (HX91.out.below (alloc_below w13 (.cells #[.slice A6 m5 c6, .int .i64 a1', .int .i64 b1', .int .u64 d1'] 27)))
              have HZ3 : Kp ((w13.alloc (.cells #[.slice A6 m5 c6, .int .i64 a1', .int .i64 b1', .int .u64 d1'] 27)).heap[w13.heap.size]? = some (.cells #[.slice A6 m5 c6, .int .i64 a1', .int .i64 b1', .int .u64 d1'] 27 (0, 0))) := ⟨heap_alloc_new w13 _⟩
              have HR3y := Kp.mk (Kd.R_alloc HRy.out (.cells #[.slice A6 m5 c6, .int .i64 a1', .int .i64 b1', .int .u64 d1'] 27))
              have HP3 : Kp (P8 < w13.heap.size) := ⟨lt_of_block HX91.out.zx⟩
              have HQ3 : Kp (w.heap.size ≤ w13.heap.size) := ⟨HX91.out.ro.b.size⟩
              refine hK.out _ _ ⟨⟨cells_top HX93.out.ro.zw 0 _ rfl, cells_top HX93.out.ro.zw 1 _ rfl, cells_top HX93.out.ro.zw 2 _ rfl, cells_top HX93.out.ro.zw 3 _ rfl⟩, HX.out _ HX93.out.ro.b⟩ (fun hHeld3 => ?_)
              clear hK K hHeld2 z0 z1 z2 z3 y0 y1 y2 y3 HZ HX91 HX92 HRy
              try simp only [List.getElem_toArray, List.getElem_cons_succ, List.getElem_cons_zero, Act.put, List.setIfInBounds_toArray, List.set_cons_zero, List.set_cons_succ]
              refine wpAnyH_take (i := 11) (oi := _) (v := ?_) rfl (by kernel_rfl) (by kernel_rfl) (by kernel_rfl) (fun _ _ _ h => h) (Or.inl ⟨by rfl, ?_⟩) (by assumption) ?_
              rotate_left
              · intro w5 hSw; (try dsimp only at hSw); go_simp; all_goals (with_reducible rfl)
              try simp only [List.getElem_toArray, List.getElem_cons_succ, List.getElem_cons_zero, Act.put, List.setIfInBounds_toArray, List.set_cons_zero, List.set_cons_succ]
              refine wpAnyH_done (by kernel_rfl) ?_ _
              clear hHeld3
              have c8a := (Kd.R_reads' HX93.out.rx).2.2
              have c8b := (Kd.R_reads' HR3y.out).2.2
              rw [← Hm5.out] at c8a c8b
              have HC8a := Kp.mk c8a
              have HC8b := Kp.mk c8b
              clear c8a c8b
              have hd1 := apply_sq HAp.out hd
              have s0 := cells_top HX93.out.zx 0 (.slice A5 m5 c5) rfl
              have s1 := cells_top HX93.out.zx 1 (.int .i64 a1') rfl
              have s2 := cells_top HX93.out.zx 2 (.int .i64 b1') rfl
              have s3 := cells_top HX93.out.zx 3 (.int .u64 d1') rfl
              have t0 := cells_top HZ3.out 0 (.slice A6 m5 c6) rfl
              have t1 := cells_top HZ3.out 1 (.int .i64 a1') rfl
              have t2 := cells_top HZ3.out 2 (.int .i64 b1') rfl
              have t3 := cells_top HZ3.out 3 (.int .u64 d1') rfl
              go_wp2_with fail
              refine (num_any _ _).mono ?_
              rintro e w9 ⟨rfl, rfl⟩
              go_wp2_with fail
              refine (same_version a1' b1' d1' HC8a.out HC8b.out).mono ?_
              rintro e w14 ⟨rfl, hbq⟩
              have HXe := Kp.mk (HX93.out.below hbq)
              have HZe := Kp.mk ((hbq.block _ (lt_of_block HZ3.out)).trans HZ3.out)
              have HRe := Kp.mk (Kd.R_below HR3y.out hbq)
              clear hbq s0 s1 s2 s3 t0 t1 t2 t3
              by_cases hx0 : x' = 0
              · subst hx0
                have HNx := Kp.mk (And.intro (apply_byt HAp.out HBd.out.1 HByE.out) hd1)
                have s0 := cells_top HXe.out.zx 0 (.slice A5 m5 c5) rfl
                have s1 := cells_top HXe.out.zx 1 (.int .i64 a1') rfl
                have s2 := cells_top HXe.out.zx 2 (.int .i64 b1') rfl
                have s3 := cells_top HXe.out.zx 3 (.int .u64 d1') rfl
                have t0 := cells_top HZe.out 0 (.slice A6 m5 c6) rfl
                have t1 := cells_top HZe.out 1 (.int .i64 a1') rfl
                have t2 := cells_top HZe.out 2 (.int .i64 b1') rfl
                have t3 := cells_top HZe.out 3 (.int .u64 d1') rfl
                have p0 := cells_top HXe.out.ro.zv 0 (.slice Av m cv) rfl
                have f0 := free_top HXe.out.ro.zv 0
                have p1 := cells_top HXe.out.ro.zv 1 (.int .i64 a) rfl
                have f1 := free_top HXe.out.ro.zv 1
                have p2 := cells_top HXe.out.ro.zv 2 (.int .i64 b) rfl
                have f2 := free_top HXe.out.ro.zv 2
                have p3 := cells_top HXe.out.ro.zv 3 (.int .u64 d) rfl
                have f3 := free_top HXe.out.ro.zv 3
                have q0 := cells_top HXe.out.ro.zw 0 (.slice Au m cu) rfl
                have r0 := free_top HXe.out.ro.zw 0
                have q1 := cells_top HXe.out.ro.zw 1 (.int .i64 a) rfl
                have r1 := free_top HXe.out.ro.zw 1
                have q2 := cells_top HXe.out.ro.zw 2 (.int .i64 b) rfl
                have r2 := free_top HXe.out.ro.zw 2
                have q3 := cells_top HXe.out.ro.zw 3 (.int .u64 d) rfl
                have r3 := free_top HXe.out.ro.zw 3
                have n1 : pv ≠ w13.heap.size := by have := HP3.out; have := HXe.out.hp; omega
                have n2 : pv + 1 ≠ w13.heap.size := by have := HP3.out; have := HXe.out.hp; omega
                have n3 : w13.heap.size ≠ pv := by have := HP3.out; have := HXe.out.hp; omega
                have n4 : w13.heap.size ≠ pv + 1 := by have := HP3.out; have := HXe.out.hp; omega
                have n5 : P8 ≠ pv := by have := HXe.out.hp; omega
                have n6 : P8 ≠ pv + 1 := by have := HXe.out.hp; omega
                have HNr := Kp.mk (ro_next HXe.out.ro HXe.out.rx HRe.out HG.out a1' b1' d1')
                go_wp2_with fail
                go_roundw
                case rel => exact ⟨k + 1, _, _, _, _, _, _, by omega, by go_num, HNr, HNx⟩
                case measure => simp [intOf]; omega
              · have hxb : (x' == 0) = false := by simpa using hx0
                clear hx0
                go_wp2_with fail
                go_roundw
                case rel => exact ⟨k + 1, _, _, _, _, _, _, by omega, by go_num, ⟨HXe.out.ro⟩, HBd⟩
                case measure => simp [intOf]; omega
            · skip
              go_simp
              have HX91 := Kp.mk (HX9d.out.below (alloc_below _ (.cells #[.slice none 0 0, .int .i64 0, .int .i64 0, .int .u64 0] 27)))
              have HZ : Kp ((World.alloc _ (.cells #[.slice none 0 0, .int .i64 0, .int .i64 0, .int .u64 0] 27)).heap[w13a.heap.size]? = some (.cells #[.slice none 0 0, .int .i64 0, .int .i64 0, .int .u64 0] 27 (0, 0))) := ⟨by have := heap_alloc_new w13a.drew (.cells #[.slice none 0 0, .int .i64 0, .int .i64 0, .int .u64 0] 27); exact this⟩
              have HP3 : Kp (P8 < w13a.heap.size) := ⟨by have := lt_of_block HX9d.out.zx; simpa using this⟩
              have HQ3 : Kp (w.heap.size ≤ w13a.heap.size) := ⟨by have := HX9d.out.ro.b.size; simpa using this⟩
              refine hK.out _ _ ⟨⟨cells_top HX91.out.ro.zw 0 _ rfl, cells_top HX91.out.ro.zw 1 _ rfl, cells_top HX91.out.ro.zw 2 _ rfl, cells_top HX91.out.ro.zw 3 _ rfl⟩, HX.out _ HX91.out.ro.b⟩ (fun hHeld1 => ?_)
              clear hK K hHeld0 HX9d
              try simp only [List.getElem_toArray, List.getElem_cons_succ, List.getElem_cons_zero, Act.put, List.setIfInBounds_toArray, List.set_cons_zero, List.set_cons_succ]
              refine wpAnyH_ready (rs := [5]) (by kernel_rfl) (by simp) ?_
              refine AllReadyH.cons (o := _) rfl (fun K hK => ?_) AllReadyH.nil
              go_simp
              refine (ref_apply (n := m) (n1 := na) (n2 := nd) (c := cu) (c1 := c1) (c2 := c2) a b d E.nx E.lg E.sq (by rw [Hm.out]; exact (Kd.R_reads' HX91.out.ro.ru).2.2) (by rw [Hna.out]; exact Kd.C_below G1.out HX91.out.ro.b) (by rw [Hnd.out]; exact Kd.C_below G2.out HX91.out.ro.b) l2 hd hesq HBd.out.1 HByE.out).mono ?_
              rintro e w13 ⟨x', l', a1', b1', d1', yv, rfl, hRR, hv, hbq⟩
              obtain ⟨rfl, rfl, rfl, rfl, rfl⟩ := apply_one HAp.out hRR
              have HX92 := Kp.mk (HX91.out.below hbq)
              have HRy := Kp.mk (Kd.R_lower (base' := w.heap.size) hv HX91.out.ro.b.size)
              obtain ⟨A6, c6, rfl⟩ := Kd.R_slice hv
              rw [← Hm5.out] at HRy ⊢
              clear hRR hv
              have HZ2 := Kp.mk ((hbq.block _ (lt_of_block HZ.out)).trans HZ.out)
              refine hK.out _ _ ⟨⟨cells_top HX92.out.ro.zw 0 _ rfl, cells_top HX92.out.ro.zw 1 _ rfl, cells_top HX92.out.ro.zw 2 _ rfl, cells_top HX92.out.ro.zw 3 _ rfl⟩, HX.out _ HX92.out.ro.b⟩ (fun hHeld2 => ?_)
              clear hK K hHeld1 HX91 hbq HZ
              try simp only [List.getElem_toArray, List.getElem_cons_succ, List.getElem_cons_zero, Act.put, List.setIfInBounds_toArray, List.set_cons_zero, List.set_cons_succ]
              refine wpAnyH_take (i := 6) (oi := _) (v := ?_) rfl (by kernel_rfl) (by kernel_rfl) (by kernel_rfl) (fun _ _ _ h => h) (Or.inl ⟨by rfl, ?_⟩) (by assumption) ?_
              rotate_left
              · intro w5 hSw; (try dsimp only at hSw); go_simp; all_goals (with_reducible rfl)
              try simp only [List.getElem_toArray, List.getElem_cons_succ, List.getElem_cons_zero, Act.put, List.setIfInBounds_toArray, List.set_cons_zero, List.set_cons_succ]
              refine wpAnyH_take (i := 7) (oi := _) (v := ?_) rfl (by kernel_rfl) (by kernel_rfl) (by kernel_rfl) (fun _ _ _ h => h) (Or.inl ⟨by rfl, ?_⟩) (by assumption) ?_
              rotate_left
              · intro w5 hSw; (try dsimp only at hSw); go_simp; all_goals (with_reducible rfl)
              try simp only [List.getElem_toArray, List.getElem_cons_succ, List.getElem_cons_zero, Act.put, List.setIfInBounds_toArray, List.set_cons_zero, List.set_cons_succ]
              refine wpAnyH_take (i := 8) (oi := _) (v := ?_) rfl (by kernel_rfl) (by kernel_rfl) (by kernel_rfl) (fun _ _ _ h => h) (Or.inl ⟨by rfl, ?_⟩) (by assumption) ?_
              rotate_left
              · intro w5 hSw; (try dsimp only at hSw); go_simp; all_goals (with_reducible rfl)
              try simp only [List.getElem_toArray, List.getElem_cons_succ, List.getElem_cons_zero, Act.put, List.setIfInBounds_toArray, List.set_cons_zero, List.set_cons_succ]
              refine wpAnyH_ready (rs := [10]) (by kernel_rfl) (by simp) ?_
              refine AllReadyH.cons (o := _) rfl (fun K hK => ?_) AllReadyH.nil
              have z0 := cells_top HZ2.out 0 _ rfl
              have y0 := free_top HZ2.out 0
              have z1 := cells_top HZ2.out 1 _ rfl
              have y1 := free_top HZ2.out 1
              have z2 := cells_top HZ2.out 2 _ rfl
              have y2 := free_top HZ2.out 2
              have z3 := cells_top HZ2.out 3 _ rfl
              have y3 := free_top HZ2.out 3
              go_simp
              have HX93 := Kp.mk (HX92.out.put HZ2.out HP3.out HQ3.out (.slice A6 m5 c6) (.int .i64 a1') (.int .i64 b1') (.int .u64 d1'))
              have HZ3 := Kp.mk (laid4 HZ2.out (.slice A6 m5 c6) (.int .i64 a1') (.int .i64 b1') (.int .u64 d1'))
              have HR3y := Kp.mk (put_R HRy.out HZ2.out (.slice A6 m5 c6) (.int .i64 a1') (.int .i64 b1') (.int .u64 d1'))
              refine hK.out _ _ ⟨⟨cells_top HX93.out.ro.zw 0 _ rfl, cells_top HX93.out.ro.zw 1 _ rfl, cells_top HX93.out.ro.zw 2 _ rfl, cells_top HX93.out.ro.zw 3 _ rfl⟩, HX.out _ HX93.out.ro.b⟩ (fun hHeld3 => ?_)
              clear hK K hHeld2 z0 z1 z2 z3 y0 y1 y2 y3 HZ2 HX92 HRy
              try simp only [List.getElem_toArray, List.getElem_cons_succ, List.getElem_cons_zero, Act.put, List.setIfInBounds_toArray, List.set_cons_zero, List.set_cons_succ]
              refine wpAnyH_take (i := 11) (oi := _) (v := ?_) rfl (by kernel_rfl) (by kernel_rfl) (by kernel_rfl) (fun _ _ _ h => h) (Or.inl ⟨by rfl, ?_⟩) (by assumption) ?_
              rotate_left
              · intro w5 hSw; (try dsimp only at hSw); go_simp; all_goals (with_reducible rfl)
              try simp only [List.getElem_toArray, List.getElem_cons_succ, List.getElem_cons_zero, Act.put, List.setIfInBounds_toArray, List.set_cons_zero, List.set_cons_succ]
              refine wpAnyH_done (by kernel_rfl) ?_ _
              clear hHeld3
              have c8a := (Kd.R_reads' HX93.out.rx).2.2
              have c8b := (Kd.R_reads' HR3y.out).2.2
              rw [← Hm5.out] at c8a c8b
              have HC8a := Kp.mk c8a
              have HC8b := Kp.mk c8b
              clear c8a c8b
              have hd1 := apply_sq HAp.out hd
              have s0 := cells_top HX93.out.zx 0 (.slice A5 m5 c5) rfl
              have s1 := cells_top HX93.out.zx 1 (.int .i64 a1') rfl
              have s2 := cells_top HX93.out.zx 2 (.int .i64 b1') rfl
              have s3 := cells_top HX93.out.zx 3 (.int .u64 d1') rfl
              have t0 := cells_top HZ3.out 0 (.slice A6 m5 c6) rfl
              have t1 := cells_top HZ3.out 1 (.int .i64 a1') rfl
              have t2 := cells_top HZ3.out 2 (.int .i64 b1') rfl
              have t3 := cells_top HZ3.out 3 (.int .u64 d1') rfl
              go_wp2_with fail
              refine (num_any _ _).mono ?_
              rintro e w9 ⟨rfl, rfl⟩
              go_wp2_with fail
              refine (same_version a1' b1' d1' HC8a.out HC8b.out).mono ?_
              rintro e w14 ⟨rfl, hbq⟩
              have HXe := Kp.mk (HX93.out.below hbq)
              have HZe := Kp.mk ((hbq.block _ (lt_of_block HZ3.out)).trans HZ3.out)
              have HRe := Kp.mk (Kd.R_below HR3y.out hbq)
              clear hbq s0 s1 s2 s3 t0 t1 t2 t3
              by_cases hx0 : x' = 0
              · subst hx0
                have HNx := Kp.mk (And.intro (apply_byt HAp.out HBd.out.1 HByE.out) hd1)
                have s0 := cells_top HXe.out.zx 0 (.slice A5 m5 c5) rfl
                have s1 := cells_top HXe.out.zx 1 (.int .i64 a1') rfl
                have s2 := cells_top HXe.out.zx 2 (.int .i64 b1') rfl
                have s3 := cells_top HXe.out.zx 3 (.int .u64 d1') rfl
                have t0 := cells_top HZe.out 0 (.slice A6 m5 c6) rfl
                have t1 := cells_top HZe.out 1 (.int .i64 a1') rfl
                have t2 := cells_top HZe.out 2 (.int .i64 b1') rfl
                have t3 := cells_top HZe.out 3 (.int .u64 d1') rfl
                have p0 := cells_top HXe.out.ro.zv 0 (.slice Av m cv) rfl
                have f0 := free_top HXe.out.ro.zv 0
                have p1 := cells_top HXe.out.ro.zv 1 (.int .i64 a) rfl
                have f1 := free_top HXe.out.ro.zv 1
                have p2 := cells_top HXe.out.ro.zv 2 (.int .i64 b) rfl
                have f2 := free_top HXe.out.ro.zv 2
                have p3 := cells_top HXe.out.ro.zv 3 (.int .u64 d) rfl
                have f3 := free_top HXe.out.ro.zv 3
                have q0 := cells_top HXe.out.ro.zw 0 (.slice Au m cu) rfl
                have r0 := free_top HXe.out.ro.zw 0
                have q1 := cells_top HXe.out.ro.zw 1 (.int .i64 a) rfl
                have r1 := free_top HXe.out.ro.zw 1
                have q2 := cells_top HXe.out.ro.zw 2 (.int .i64 b) rfl
                have r2 := free_top HXe.out.ro.zw 2
                have q3 := cells_top HXe.out.ro.zw 3 (.int .u64 d) rfl
                have r3 := free_top HXe.out.ro.zw 3
                have n1 : pv ≠ w13a.heap.size := by have := HP3.out; have := HXe.out.hp; omega
                have n2 : pv + 1 ≠ w13a.heap.size := by have := HP3.out; have := HXe.out.hp; omega
                have n3 : w13a.heap.size ≠ pv := by have := HP3.out; have := HXe.out.hp; omega
                have n4 : w13a.heap.size ≠ pv + 1 := by have := HP3.out; have := HXe.out.hp; omega
                have n5 : P8 ≠ pv := by have := HXe.out.hp; omega
                have n6 : P8 ≠ pv + 1 := by have := HXe.out.hp; omega
                have HNr := Kp.mk (ro_next HXe.out.ro HXe.out.rx HRe.out HG.out a1' b1' d1')
                go_wp2_with fail
                go_roundw
                case rel => exact ⟨k + 1, _, _, _, _, _, _, by omega, by go_num, HNr, HNx⟩
                case measure => simp [intOf]; omega
              · have hxb : (x' == 0) = false := by simpa using hx0
                clear hx0
                go_wp2_with fail
                go_roundw
                case rel => exact ⟨k + 1, _, _, _, _, _, _, by omega, by go_num, ⟨HXe.out.ro⟩, HBd⟩
                case measure => simp [intOf]; omega
      · go_wp2_with fail
        go_ret
        exact ⟨rfl, HR.out.b⟩
end Go.Proofs.Ytgfkpddmjcgceaa.Kx
