import Derived.Test.YtpgkpigpehehmaaMrgX
set_option linter.unusedVariables false
set_option linter.unusedSimpArgs false
namespace Go.Proofs.Ytpgkpigpehehmaa.Bas
open Go.RowKit Go.Maps Go.Sort Go.Shelf

/-- What the reference's MergeBack tells. -/
def MBackQ (w0 : World) (ess : List (List En)) (e : Ending) (w' : World) : Prop :=
  Below w0.heap.size w0 w' ∧
    ((allRise ess = false ∧ ∃ A c, e = .returned (.tuple #[.slice A 0 c, .int .i64 10]) ∧ (A = none → c = 0)) ∨
      (allRise ess = true ∧ ∃ v ps M, e = .returned (.tuple #[v, .int .i64 0]) ∧ Ow w0.heap.size w' v ps ∧ Tells ess.flatten M ∧ ps.map (·.2) = M.reverse))
def MBackL (T : World → Int → List En → Prop) (e : Ending) (w' : World) : Prop := ∃ w1, ∃ A1 m c1 M, ∃ k : Int, T w1 k M ∧ Es w1 A1 m c1 M ∧ Below w1.heap.size w1 w' ∧ ∃ v ps, e = .returned (.tuple #[v, .int .i64 k]) ∧ Ow w1.heap.size w' v ps ∧ ps.map (·.2) = M.reverse
set_option maxHeartbeats 8000000 in
set_option maxRecDepth 100000 in
/-- MergeBack, behind Merge: a read list, turned round. -/
theorem mback_loop {w : World} {A : Option Addr} {n c : Nat} {Q : Ending → World → Prop} {T : World → Int → List En → Prop} (hM : Calls Try.prog 9 #[.slice A n c] w Q)
    (hQ : ∀ e w1, Q e w1 → ∃ A1 m c1 M, ∃ k : Int, e = .returned (.tuple #[.slice A1 m c1, .int .i64 k]) ∧ Es w1 A1 m c1 M ∧ T w1 k M) :
    Calls Try.prog 11 #[.slice A n c] w (MBackL T) := by
  have HM := Kp.mk hM
  have HQ := Kp.mk hQ
  clear hM hQ
  go_enter Try.func11, Try.ntmps11
  go_wp2_with fail
  refine HM.out.mono ?_
  rintro e w1 hq
  obtain ⟨A1, m, c1, M, k, rfl, hes, hq⟩ := HQ.out e w1 hq
  have Hq := Kp.mk hq
  have HE := Kp.mk hes
  have hm := hes.max
  have r0 : IntKind.i64.wrap ((m : Int) - 1) = (m : Int) - 1 := IntWalk.i64_in _ (by omega)
  have Hl := Kp.mk hes.len
  clear hq hes HM HQ
  go_wp2_with fail
  go_loopw [6, 7] (fun v s wr => ∃ (j : Nat) (ps : List Pr), s = .int .i64 ((j : Int) - 1) ∧ j ≤ m ∧ Kp (Ow w1.heap.size wr v ps) ∧ Kp (ps.map (·.2) = (M.drop j).reverse) ∧ Kp (Below w1.heap.size w1 wr)) (fun _ s _ => (intOf s + 1).toNat)
  case atStart => exact ⟨m, [], rfl, Nat.le_refl _, ⟨Ow.nil _ _⟩, ⟨by rw [List.drop_of_length_le (by have := Hl.out; omega)]; rfl⟩, ⟨Below.refl _ _⟩⟩
  case round =>
    obtain ⟨j, ps, rfl, hj, HO, HP, HB⟩ := hrel
    by_cases h0 : j = 0
    · subst h0
      have hz : ¬ (0 : Int) ≤ ((0 : Nat) : Int) - 1 := by omega
      go_wp2_with fail
      go_ret2
      unfold MBackL
      exact ⟨w1, A1, m, c1, M, k, Hq.out, HE.out, HB.out, _, ps, rfl, HO.out, by rw [HP.out, List.drop_zero]⟩
    · obtain ⟨q, hq⟩ : ∃ q, j = q + 1 := ⟨j - 1, by omega⟩
      subst hq
      rw [show ((q + 1 : Nat) : Int) - 1 = (q : Int) by omega]
      have rq : IntKind.i64.wrap ((q : Int) - 1) = (q : Int) - 1 := IntWalk.i64_in _ (by omega)
      have hqm : q < m := by omega
      obtain ⟨g, off, rfl, hc⟩ := HE.out.cell (by omega)
      obtain ⟨vs, hv, hv'⟩ := hc q hqm
      obtain ⟨en, hen⟩ : ∃ en, en = M.getD q enD := ⟨_, rfl⟩
      rw [← hen] at hv
      have HP' : Kp ((M.drop q).reverse = (M.drop (q + 1)).reverse ++ [en]) := ⟨by
        have hl := Hl.out
        rw [List.drop_eq_getElem_cons (by omega : q < M.length), List.reverse_cons, hen, getD_get (by omega)]⟩
      have Hv := Kp.mk (hv.below HB.out)
      have Hvl := Kp.mk hv.lt
      obtain ⟨B1, n1, d1, B1', n1', d1', rfl, b1, b2, b3, b4⟩ := hv
      have y0 : wr.cell? ⟨g, off + q * 4, none⟩ = some (.slice B1 n1 d1) := cell_kept HB.out (hv' 0 _ rfl)
      have y1 : wr.cell? ⟨g, off + q * 4 + 1, none⟩ = some (.int .u64 en.k.seq) := cell_kept HB.out (hv' 1 _ rfl)
      have y2 : wr.cell? ⟨g, off + q * 4 + 2, none⟩ = some (.int .i64 en.k.kind) := cell_kept HB.out (hv' 2 _ rfl)
      have y3 : wr.cell? ⟨g, off + q * 4 + 3, none⟩ = some (.slice B1' n1' d1') := cell_kept HB.out (hv' 3 _ rfl)
      have HO2 := Kp.mk (HO.out.below (alloc_below wr (.cells #[.slice B1 n1 d1, .int .u64 en.k.seq, .int .i64 en.k.kind, .slice B1' n1' d1'] 40)))
      have HE2 := Kp.mk (Hv.out.below (alloc_below wr (.cells #[.slice B1 n1 d1, .int .u64 en.k.seq, .int .i64 en.k.kind, .slice B1' n1' d1'] 40)))
      have HB2 : Kp (Below w1.heap.size w1 (wr.alloc (.cells #[.slice B1 n1 d1, .int .u64 en.k.seq, .int .i64 en.k.kind, .slice B1' n1' d1'] 40))) := ⟨HB.out.trans ((alloc_below wr _).mono HB.out.size)⟩
      have HF2 : Kp (∀ A n c, Value.slice (some A) n c ∈ (#[.slice B1 n1 d1, .int .u64 en.k.seq, .int .i64 en.k.kind, .slice B1' n1' d1'] : Array Value).toList → 0 < n → some A.block ≠ u6.ownBlock) := ⟨fun A n c hm hn he => by
        have h1 := Hvl.out A n c hm hn
        have h2 := HO.out.base A.block he.symm
        omega⟩
      have HC2 : Kp (∀ (j : Nat) (u : Value), (#[.slice B1 n1 d1, .int .u64 en.k.seq, .int .i64 en.k.kind, .slice B1' n1' d1'] : Array Value)[j]? = some u → (wr.alloc (.cells #[.slice B1 n1 d1, .int .u64 en.k.seq, .int .i64 en.k.kind, .slice B1' n1' d1'] 40)).cell? ((⟨wr.heap.size, 0, none⟩ : Addr).add j) = some u) := ⟨fun j u hu => by
        rw [Addr.add_lit, Nat.zero_add]
        exact cells_top (heap_alloc_new wr _) j u hu⟩
      have HL2 : Kp (ps.length + 1 ≤ 2000000) := ⟨by
        have h1 := congrArg List.length HP.out
        rw [List.length_map, List.length_reverse, List.length_drop] at h1
        have := Hl.out
        omega⟩
      clear hv' hc hen b1 b2 b3 b4
      go_wp2_with (at_builtin; go_loud (refine wpList_append_one (B := w1.heap.size) rfl (.tmp 20) (.tmp 25) rfl u6 ps _ en ⟨wr.heap.size, 0, none⟩ 1 rfl rfl HO2.out HE2.out HF2.out HC2.out HL2.out HB2.out.size ?_; intro v' w3 hown hg hat; have HO3 := Kp.mk hown; have HB3 := Kp.mk (HB2.out.grown hg HB2.out.size (own_base4 HO2.out.own)); clear hown hg hat))
      go_roundw
      case rel => exact ⟨q, _, by first | rfl | go_num, by omega, HO3, ⟨by rw [List.map_append, HP.out, HP'.out]; rfl⟩, HB3⟩
      case measure => simp [intOf]
theorem mback_ref {w : World} {A : Option Addr} {n c : Nat} {ess : List (List En)} (h : Ls w A n c ess) (hT : ess.flatten.length ≤ 1000000) :
    Calls Try.prog 11 #[.slice A n c] w (MBackQ w ess) := by
  refine (mback_loop (T := fun w1 k M => Below w.heap.size w w1 ∧ ((allRise ess = false ∧ k = 10 ∧ M = []) ∨ (allRise ess = true ∧ k = 0 ∧ Tells ess.flatten M))) (merge_ref h hT) (fun e w1 hq => ?_)).mono ?_
  · obtain ⟨hb, (⟨hr, rfl⟩ | ⟨hr, v, ps, rfl, hO, hTe⟩)⟩ := hq
    · exact ⟨none, 0, 0, [], 10, rfl, ⟨rfl, Nat.zero_le _, fun _ => ⟨rfl, rfl⟩, fun h => absurd h (Nat.lt_irrefl 0)⟩, hb, .inl ⟨hr, rfl, rfl⟩⟩
    · obtain ⟨A1, c1, rfl⟩ := hO.slice
      have hlen : ps.length ≤ 1000000 := by
        have := rising_short _ ess.flatten hTe.rise (fun m hm => List.mem_of_find?_eq_some (hTe.first m hm))
        rw [List.length_map] at this
        omega
      exact ⟨A1, ps.length, c1, ps.map (·.2), 0, rfl, (hO.es hlen).2, hb, .inr ⟨hr, rfl, hTe⟩⟩
  · rintro e w' ⟨w1, A1, m, c1, M, k, ⟨hb, hc⟩, hes, hb2, v, ps, rfl, hO, hp⟩
    refine ⟨hb.trans (hb2.mono hb.size), ?_⟩
    rcases hc with ⟨hr, rfl, rfl⟩ | ⟨hr, rfl, hTe⟩
    · have h0 : ps = [] := by
        have := congrArg List.length hp
        rw [List.length_map] at this
        exact List.eq_nil_of_length_eq_zero this
      subst h0
      obtain ⟨A2, c2, rfl⟩ := hO.slice
      exact .inl ⟨hr, A2, c2, rfl, fun e => ((hO.es (Nat.zero_le _)).2.nil e).2⟩
    · exact .inr ⟨hr, v, ps, M, rfl, hO.lower hb.size, hTe, hp⟩
end Go.Proofs.Ytpgkpigpehehmaa.Bas
