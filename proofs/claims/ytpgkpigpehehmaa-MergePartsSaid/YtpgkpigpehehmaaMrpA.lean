import Derived.Test.YtpgkpigpehehmaaMrgZd
import Derived.Test.YtpgkpigpehehmaaMrgX
set_option linter.unusedVariables false
set_option linter.unusedSimpArgs false
namespace Go.Proofs.Ytpgkpigpehehmaa.Bas
open Go.RowKit Go.Maps Go.Sort Go.Shelf

/-! ### n rows of entries of the call's own, in a row of slices -/
theorem and_low (x : Int) : ∃ y : Nat, bits BinOp.and IntKind.i64 x 1023 = (y : Int) ∧ y ≤ 1023 := by
  have h1 : (BitVec.ofInt IntKind.i64.bits x &&& BitVec.ofInt IntKind.i64.bits 1023).toNat ≤ 1023 := by
    rw [BitVec.toNat_and]
    refine Nat.le_trans Nat.and_le_right ?_
    decide
  refine ⟨(BitVec.ofInt IntKind.i64.bits x &&& BitVec.ofInt IntKind.i64.bits 1023).toNat, ?_, h1⟩
  show IntKind.i64.wrap ((BitVec.ofInt IntKind.i64.bits x &&& BitVec.ofInt IntKind.i64.bits 1023).toNat : Int) = _
  exact IntWalk.i64_in _ (by omega)
theorem Try.infoLsp : (Try.prog.info? 25).map (fun i => (i.zero, i.size, i.bytes)) = some (some (.slice none 0 0), 1, 24) := by kernel_rfl
theorem make_lists (W : World) (n : Nat) (hn : n ≤ 1000000) : (Instr.makeSlice 22 (.int .i64 (n : Int)) (.int .i64 (n : Int))).run Try.prog W = .ok (.slice (some ⟨W.heap.size, 0, none⟩) n n) (W.alloc (.cells (madeCells #[.slice none 0 0] n) 25)) := by
  obtain ⟨i0, hi, hz0, hz1, hz2⟩ := info_parts Try.infoLsp
  have := run_makeSlice (P := Try.prog) W 22 25 i0 (.slice none 0 0) Try.underlying22 hi hz0 .i64 .i64 (n : Int) (n : Int) (by omega) (Int.le_refl _) (by rw [hz1]; omega) (by rw [hz2]; omega) (by omega)
  rw [hz1, Nat.mul_one] at this
  exact this
/-- w0: the world in which the entries' bytes lie; g: the row of slices; vs: what its cells hold; pss: the rows. -/
structure Pa (w0 w : World) (g n : Nat) (vs : Nat → Value) (pss : Nat → List Pr) : Prop where
  elder : w0.heap.size ≤ g
  bel : Below w0.heap.size w0 w
  row : ∃ cs : Array Value, w.heap[g]? = some (.cells cs 25 (0, 0)) ∧ cs.size = n ∧ ∀ i, i < n → cs[i]? = some (vs i)
  own : ∀ i, i < n → w.ownsRow (g + 1) 40 4 (vs i) (pss i).length (flat4 (pss i))
  en : ∀ i, i < n → ∀ p ∈ pss i, EnC w0 p.1 p.2
  two : ∀ i j k, i < n → j < n → (vs i).ownBlock = some k → (vs j).ownBlock = some k → i = j
theorem Pa.below {w0 w W : World} {g n : Nat} {vs : Nat → Value} {pss : Nat → List Pr} (h : Pa w0 w g n vs pss) (hb : Below w.heap.size w W) : Pa w0 W g n vs pss :=
  ⟨h.elder, h.bel.trans (hb.mono h.bel.size), by
    obtain ⟨cs, h1, h2, h3⟩ := h.row
    exact ⟨cs, (hb.block g (lt_of_block h1)).trans h1, h2, h3⟩,
    fun i hi => row_heap4 (h.own i hi) (fun k hk => hb.block k (own_blk_lt (h.own i hi) k hk)), h.en, h.two⟩
theorem Pa.cell {w0 w : World} {g n : Nat} {vs : Nat → Value} {pss : Nat → List Pr} (h : Pa w0 w g n vs pss) {i : Nat} (hi : i < n) : w.cell? ⟨g, i, none⟩ = some (vs i) := by
  obtain ⟨cs, h1, _, h3⟩ := h.row
  exact cells_top h1 i _ (h3 i hi)
theorem Pa.free {w0 w : World} {g n : Nat} {vs : Nat → Value} {pss : Nat → List Pr} (h : Pa w0 w g n vs pss) (i : Nat) : w.frozen? ⟨g, i, none⟩ = false := by
  obtain ⟨cs, h1, _, _⟩ := h.row
  exact free_top h1 i
theorem Pa.lt {w0 w : World} {g n : Nat} {vs : Nat → Value} {pss : Nat → List Pr} (h : Pa w0 w g n vs pss) : g < w.heap.size := by
  obtain ⟨cs, h1, _, _⟩ := h.row
  exact lt_of_block h1
theorem Pa.ow {w0 w : World} {g n : Nat} {vs : Nat → Value} {pss : Nat → List Pr} (h : Pa w0 w g n vs pss) {i : Nat} (hi : i < n) : Ow (g + 1) w (vs i) (pss i) :=
  ⟨h.own i hi, fun p hp => (h.en i hi p hp).below h.bel, fun p hp A m c hm hn e => by
    have h1 := (h.en i hi p hp).lt A m c hm hn
    have h2 := own_base4 (h.own i hi) A.block e.symm
    have := h.elder
    omega⟩
theorem Pa.slice {w0 w : World} {g n : Nat} {vs : Nat → Value} {pss : Nat → List Pr} (h : Pa w0 w g n vs pss) {i : Nat} (hi : i < n) : ∃ A c, vs i = .slice A (pss i).length c := (h.ow hi).slice
theorem pa_new {w0 : World} {n : Nat} : Pa w0 (w0.alloc (.cells (madeCells #[.slice none 0 0] n) 25)) w0.heap.size n (fun _ => .slice none 0 0) (fun _ => []) where
  elder := Nat.le_refl _
  bel := alloc_below _ _
  row := ⟨_, heap_alloc_new _ _, by rw [size_madeCells], fun i hi => by simp [madeCells, hi, Nat.mod_one]⟩
  own := fun i hi => ⟨rfl, .inl ⟨rfl, rfl⟩⟩
  en := fun i hi p hp => by cases hp
  two := fun i j k _ _ e _ => by cases e
/-- One entry is put to the row k: the row has grown, and its slice stands in the row of slices. -/
theorem Pa.put {w0 w w' : World} {g n : Nat} {vs : Nat → Value} {pss : Nat → List Pr} (h : Pa w0 w g n vs pss) {k : Nat} (hk : k < n) {v' : Value} {us : Array Value} {e : En} (he : EnC w0 us e)
    (ho : w'.ownsRow (g + 1) 40 4 v' ((pss k).length + 1) (flat4 (pss k ++ [(us, e)]))) (hg : w.grownBy w' (vs k).ownBlock) (hat : v'.ownBlock = (vs k).ownBlock ∨ v'.ownBlock = some w.heap.size) :
    Pa w0 (w'.setCell ⟨g, k, none⟩ v') g n (fun j => if j = k then v' else vs j) (fun j => if j = k then pss k ++ [(us, e)] else pss j) := by
  have hge := h.elder
  have hgl := h.lt
  have hkb : ∀ q, (vs k).ownBlock = some q → g + 1 ≤ q := own_base4 (h.own k hk)
  have hbl : Below (g + 1) w w' := (Below.refl _ _).grown hg (by omega) hkb
  have hne : ∀ (q : Nat), q ≠ g → (w'.setCell ⟨g, k, none⟩ v').heap[q]? = w'.heap[q]? := fun q hq => heap_setCell_other w' ⟨g, k, none⟩ q v' (by simpa using hq)
  obtain ⟨cs, h1, h2, h3⟩ := h.row
  have h1' : w'.heap[g]? = some (.cells cs 25 (0, 0)) := (hbl.block g (by omega)).trans h1
  have hother : ∀ j, j < n → j ≠ k → ∀ q, (vs j).ownBlock = some q → w'.heap[q]? = w.heap[q]? := fun j hj hjk q hq =>
    hg.block q (own_blk_lt (h.own j hj) q hq) (fun e => hjk (h.two j k q hj hk hq e.symm))
  refine ⟨hge, ?_, ⟨_, heap_setCell_same _ _ k _ _ v' h1', by simp [h2], fun j hj => ?_⟩, fun j hj => ?_, fun j hj p hp => ?_, fun i j q hi hj e1 e2 => ?_⟩
  · have hb2 : Below w0.heap.size w0 w' := h.bel.trans (hbl.mono (by omega))
    exact hb2.trans (((Fr.refl w' (fun q => q = g)).setCell (a := ⟨g, k, none⟩) (.inl rfl) v').toBelow (fun q hq => by rw [hq]; exact hge) hb2.size)
  · simp only [Array.set!_eq_setIfInBounds, Array.getElem?_setIfInBounds]
    by_cases e : k = j
    · subst e; simp [h2, hj]
    · rw [if_neg e, if_neg (fun h => e h.symm)]; exact h3 j hj
  · by_cases e : j = k
    · subst e
      simp only [if_true, List.length_append, List.length_singleton]
      exact row_heap4 ho (fun q hq => hne q (by have := own_base4 ho q hq; omega))
    · simp only [if_neg e]
      exact row_heap4 (h.own j hj) (fun q hq => (hne q (by have := own_base4 (h.own j hj) q hq; omega)).trans (hother j hj e q hq))
  · by_cases e : j = k
    · subst e
      simp only [if_true] at hp
      rcases List.mem_append.1 hp with hp | hp
      · exact h.en j hj p hp
      · rw [List.mem_singleton.1 hp]; exact he
    · simp only [if_neg e] at hp
      exact h.en j hj p hp
  · have key : ∀ j, j < n → j ≠ k → (vs j).ownBlock = some q → v'.ownBlock = some q → False := fun j hj hjk e1 e2 => by
      rcases hat with e | e
      · exact hjk (h.two j k q hj hk e1 (e.symm.trans e2))
      · rw [e] at e2
        injection e2 with e2
        have := own_blk_lt (h.own j hj) q e1
        omega
    by_cases a : i = k
    · by_cases b : j = k
      · rw [a, b]
      · simp only [if_pos a] at e1
        simp only [if_neg b] at e2
        exact (key j hj b e2 e1).elim
    · by_cases b : j = k
      · simp only [if_neg a] at e1
        simp only [if_pos b] at e2
        exact (key i hi a e1 e2).elim
      · simp only [if_neg a] at e1
        simp only [if_neg b] at e2
        exact h.two i j q hi hj e1 e2
/-- The row of slices, behind an append to the row k. -/
theorem Pa.grown {w0 w w' : World} {g n : Nat} {vs : Nat → Value} {pss : Nat → List Pr} (h : Pa w0 w g n vs pss) {k : Nat} (hk : k < n) (hg : w.grownBy w' (vs k).ownBlock) : w'.cell? ⟨g, k, none⟩ = some (vs k) ∧ w'.frozen? ⟨g, k, none⟩ = false := by
  obtain ⟨cs, h1, _, h3⟩ := h.row
  have h1' : w'.heap[g]? = some (.cells cs 25 (0, 0)) := (hg.block g (lt_of_block h1) (fun e => by have := own_base4 (h.own k hk) g e.symm; omega)).trans h1
  exact ⟨cells_top h1' k _ (h3 k hk), free_top h1' k⟩
/-- The rows, as they are read. -/
def pls (n : Nat) (pss : Nat → List Pr) : List (List En) := (List.range n).map (fun j => (pss j).map (·.2))
theorem Pa.ls {w0 w : World} {g n : Nat} {vs : Nat → Value} {pss : Nat → List Pr} (h : Pa w0 w g n vs pss) (hn : n ≤ 1000000) (hp : ∀ i, i < n → (pss i).length ≤ 1000000) : Ls w (some ⟨g, 0, none⟩) n n (pls n pss) := by
  refine ⟨by simp [pls], hn, (fun e => by cases e), fun _ => ⟨⟨g, 0, none⟩, rfl, fun i hi => ?_⟩⟩
  have e : (pls n pss).getD i [] = (pss i).map (·.2) := by simp [pls, List.getD, hi]
  obtain ⟨A, c, hv⟩ := h.slice hi
  have ho := h.ow hi
  rw [hv] at ho
  rw [e, List.length_map]
  refine ⟨A, c, by rw [Addr.add_lit, Nat.zero_add, ← hv]; exact h.cell hi, (ho.es (hp i hi)).2⟩
theorem pls_put {n k : Nat} (hk : k < n) {pss : Nat → List Pr} {p : Pr} : (pls n (fun j => if j = k then pss k ++ [p] else pss j)).flatten.Perm ((pls n pss).flatten ++ [p.2]) := by
  induction n with
  | zero => omega
  | succ m ih =>
    unfold pls at ih ⊢
    rw [List.range_succ, List.map_append, List.map_append, List.flatten_append, List.flatten_append]
    by_cases e : k = m
    · subst e
      have : (List.range k).map (fun j => ((if j = k then pss k ++ [p] else pss j) : List Pr).map (·.2)) = (List.range k).map (fun j => (pss j).map (·.2)) := by
        refine List.map_congr_left (fun j hj => ?_)
        have := List.mem_range.1 hj
        rw [if_neg (by omega)]
      rw [this]
      simp
    · have h2 := ih (by omega)
      simp only [List.map_cons, List.map_nil, List.flatten_cons, List.flatten_nil, List.append_nil, if_neg (show ¬ m = k by omega)]
      refine (h2.append_right _).trans ?_
      rw [List.append_assoc, List.append_assoc]
      exact List.Perm.append_left _ List.perm_append_comm
/-- append(parts[k], l[i]), as one step of a region that draws. -/
theorem step_append_pa {w0 w : World} {g n : Nat} {vs : Nat → Value} {pss : Nat → List Pr} {ops : Array Oper} {o : Oper} {a : Act} {K : Act → World → Prop} {Q : Exit → Act → World → Prop} {E : Prop} (hg : o.guard = none) (s x : Operand)
    (ho : o.op = .call { callee := .builtin .append, args := #[s, x], argTypes := #[25, 25] })
    (h : Pa w0 w g n vs pss) {k : Nat} (hk : k < n) (us : Array Value) (e : En) (ad : Addr) (c : Nat) (hs : a.eval s = vs k) (hx : a.eval x = .slice (some ad) 1 c) (he : EnC w0 us e)
    (hc : ∀ j u, us[j]? = some u → w.cell? (ad.add j) = some u) (hl : (pss k).length + 1 ≤ 2000000)
    (hK : ∀ v' w', w'.ownsRow (g + 1) 40 4 v' ((pss k).length + 1) (flat4 (pss k ++ [(us, e)])) → w.grownBy w' (vs k).ownBlock → (v'.ownBlock = (vs k).ownBlock ∨ v'.ownBlock = some w.heap.size) → K (a.put o.dst v') w') :
    if Region.wanted o (yielded ops a.tmps) = true then Oper.wp Try.prog o a w K Q else E := by
  have hw : Region.wanted o (yielded ops a.tmps) = true := by simp [Region.wanted, hg]
  rw [if_pos hw]
  obtain ⟨i0, hi, hz0, hz1, hz2⟩ := info_parts Try.infoEn
  have hone : ∀ p ∈ [(us, e)], EnC w0 p.1 p.2 := fun p hp => by rw [List.mem_singleton.1 hp]; exact he
  have hfl : flat4 [(us, e)] = us.toList := by simp [flat4]
  have hlen : (flat4 [(us, e)]).length = 1 * 4 := flat4_length hone
  obtain ⟨v', w', hr, h2, h3, h4, h5⟩ := run_append_own_at (P := Try.prog) w (g + 1) 25 o.type 40 i0 _ 4 64 Try.underlying25 hi hz0 hz1 hz2 rfl (by omega) (vs k) (pss k).length (flat4 (pss k)) (h.own k hk) ad 1 c (flat4 [(us, e)]) hlen (fun j u hu => hc j u (by rw [hfl] at hu; simpa using hu)) (flat4_one hone) (by unfold maxLen; omega) (by omega) (by have := h.lt; omega)
  unfold Oper.wp execOp
  simp only [ho, resolve, invoke, builtin, Sem.run_bind, Sem.run_pure, Result.andThen_ok, List.map_toArray, List.map_cons, List.map_nil, hs, hx, hr]
  refine hK v' w' ?_ h3 h5
  rw [flat4_append]
  exact h2
end Go.Proofs.Ytpgkpigpehehmaa.Bas
