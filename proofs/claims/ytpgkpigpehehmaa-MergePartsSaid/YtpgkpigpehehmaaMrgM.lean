import Derived.Test.YtpgkpigpehehmaaMrgL
set_option linter.unusedVariables false
set_option linter.unusedSimpArgs false
namespace Go.Proofs.Ytpgkpigpehehmaa.Bas
open Go.RowKit Go.Maps Go.Sort Go.Shelf

/-! ### The insertion sort where no element is less than another: nothing turns -/
section
variable {α : Type} [Inhabited α] (lt : α → α → Bool)
theorem insInner_size (a : Nat) : ∀ (j : Nat) (d : Array α), (insInner lt a j d).size = d.size
  | 0, d => rfl
  | j + 1, d => by
    unfold insInner
    split
    · rw [insInner_size a j]
      simp [swp]
    · rfl
theorem insOuter_size (a b : Nat) : ∀ (m i : Nat) (d : Array α), b - i ≤ m → (insOuter lt a b i d).size = d.size
  | 0, i, d, h => by
    unfold insOuter
    rw [if_neg (by omega)]
  | m + 1, i, d, h => by
    unfold insOuter
    split
    · rw [insOuter_size a b m (i + 1) _ (by omega), insInner_size]
    · rfl
theorem insertionSort_size (a b : Nat) (d : Array α) : (Sort.insertionSort lt d a b).size = d.size := insOuter_size lt a b (b - (a + 1)) (a + 1) d (Nat.le_refl _)
theorem insInner_same {d : Array α} (h : ∀ i j, i < d.size → j < d.size → lt d[i]! d[j]! = false) (a : Nat) : ∀ j, j < d.size → insInner lt a j d = d
  | 0, _ => rfl
  | j + 1, hj => by
    unfold insInner
    rw [if_neg]
    simp [h (j + 1) j hj (by omega)]
theorem insOuter_same {d : Array α} (h : ∀ i j, i < d.size → j < d.size → lt d[i]! d[j]! = false) (a b : Nat) (hb : b ≤ d.size) : ∀ (m i : Nat), b - i ≤ m → insOuter lt a b i d = d
  | 0, i, hm => by
    unfold insOuter
    rw [if_neg (by omega)]
  | m + 1, i, hm => by
    unfold insOuter
    split
    · rw [insInner_same lt h a i (by omega)]
      exact insOuter_same h a b hb m (i + 1) (by omega)
    · rfl
end
/-- Where all keys are the same: nothing turns. -/
def R0 (a b : List En) : Prop := (∀ x ∈ a, ∀ y ∈ a, keyCmp x.k y.k = 0) → b = a
theorem R0_nil : R0 [] [] := fun _ => rfl
theorem sorts_small (w0 : World) (n : Nat) (hn : n < 20) : SortsAt w0 R0 n := by
  intro W blk cap d hb hB hH hblk hd
  subst hd
  refine (sort_small W blk 0 cap d hb hB hH hblk hn).mono ?_
  rintro e w' ⟨rfl, m, os, rfl⟩
  refine ⟨rfl, m, os, _, rfl, insertionSort_size _ _ _ _, fun hall => ?_⟩
  have hsame : Sort.insertionSort (ltOf cfC) d 0 d.size = d := insOuter_same (ltOf cfC) (d := d) (fun i j hi hj => by
    have h1 : (d[i]!).1.2 ∈ d.toList.map (fun x : Cell4 w0 => x.1.2) := List.mem_map.2 ⟨d[i]!, by rw [getElem!_pos d i hi]; simp, rfl⟩
    have h2 : (d[j]!).1.2 ∈ d.toList.map (fun x : Cell4 w0 => x.1.2) := List.mem_map.2 ⟨d[j]!, by rw [getElem!_pos d j hj]; simp, rfl⟩
    have h3 := hall _ h1 _ h2
    have h4 : cfC d[i]! d[j]! = 0 := h3
    unfold ltOf
    rw [h4]
    rfl) 0 d.size (Nat.le_refl _) _ _ (Nat.le_refl _)
  rw [hsame]

/-! ### Back, of at most one entry -/
set_option maxHeartbeats 2000000 in
set_option maxRecDepth 100000 in
theorem rev_one (w : World) (A : Option Addr) (n c : Nat) (hn : n ≤ 1) : Calls Try.prog 24 #[.slice A n c] w fun e w' => e = .returned (.tuple #[]) ∧ w' = w := by
  have hw : IntKind.i64.wrap ((n : Int) - 1) = (n : Int) - 1 := IntWalk.i64_in _ (by omega)
  have hlt : ¬ (0 : Int) < (n : Int) - 1 := by omega
  go_enter Try.func24, Try.ntmps24
  go_wp2_with fail
  refine wp_loop_rounds 1 ?_
  rw [rounds_succ]
  go_wp2
  go_end0
  exact ⟨rfl, rfl⟩
set_option maxHeartbeats 2000000 in
set_option maxRecDepth 100000 in
theorem back_one {w : World} {A : Option Addr} {n c : Nat} {ess : List (List En)} {R : List En → List En → Prop} (h : Ls w A n c ess) (hT : ess.flatten.length ≤ 1000000)
    (hs : SortsAt w R ess.flatten.length) (hR : R [] []) (hone : ∀ L', R ess.flatten L' → (dd L' L'.length).length ≤ 1) :
    Calls Try.prog 10 #[.slice A n c] w (AllQ w ess R) := by
  have Ha := Kp.mk (all_any h hT hs hR)
  have Ho := Kp.mk hone
  clear h hT hs hR hone
  go_enter Try.func10, Try.ntmps10
  go_wp2_with fail
  refine Ha.out.mono ?_
  rintro e w1 ⟨hb1, (⟨hr, rfl⟩ | ⟨hr, v, ps, L', hR, hL, rfl, hO, hp⟩)⟩
  · have HR := Kp.mk hr
    have HB := Kp.mk hb1
    clear hr hb1
    go_wp2_with (go_at_call 24; refine (rev_one _ none 0 0 (by omega)).mono ?_; rintro e w2 ⟨rfl, hw2⟩)
    subst hw2
    go_ret2
    exact ⟨HB.out, .inl ⟨HR.out, rfl⟩⟩
  · obtain ⟨A1, c1, rfl⟩ := hO.slice
    have hn1 : ps.length ≤ 1 := by
      have := Ho.out L' hR
      have h2 := congrArg List.length hp
      rw [List.length_map] at h2
      omega
    have HK := Kp.mk (And.intro hb1 (And.intro hr (And.intro hR (And.intro hL (And.intro hO hp)))))
    have Hn1 := Kp.mk hn1
    clear hb1 hr hR hL hp hn1
    obtain ⟨m, hm⟩ : ∃ m, m = ps.length := ⟨_, rfl⟩
    have Hm := Kp.mk hm
    rw [← hm] at Hn1 ⊢
    have HO : Kp (Ow w.heap.size w1 (.slice A1 m c1) ps) := ⟨by rw [hm]; exact hO⟩
    clear hm hO
    go_wp2_with (go_at_call 24; refine (rev_one _ A1 m c1 Hn1.out).mono ?_; rintro e w2 ⟨rfl, hw2⟩)
    subst hw2
    go_ret2
    exact ⟨HK.out.1, .inr ⟨HK.out.2.1, _, ps, L', HK.out.2.2.1, HK.out.2.2.2.1, rfl, HO.out, HK.out.2.2.2.2.2⟩⟩
/-! ### A list of lists, by its own row -/
/-- One entry in a block of its own, as a slice. -/
theorem es_one {w : World} {g : Nat} {vs : Array Value} {e : En} (hh : w.heap[g]? = some (.cells vs 40 (0, 0))) (he : EnC w vs e) : Es w (some ⟨g, 0, none⟩) 1 1 [e] :=
  ⟨rfl, by omega, (fun h => by cases h), fun _ => ⟨g, 0, rfl, fun i hi => by
    obtain rfl : i = 0 := by omega
    exact ⟨vs, he, fun j v hv => by rw [Nat.zero_mul, Nat.add_zero, Nat.zero_add]; exact cells_top hh j v hv⟩⟩⟩
/-- The call's own row of lists of one entry each: the first is ca, the others cb. -/
structure Lw (B : Nat) (w : World) (v : Value) (n : Nat) (ca cb : Array Value) : Prop where
  own : ∃ xs, w.ownsRow B 25 1 v n xs ∧ ∀ i, i < n → ∃ g, xs[i]? = some (.slice (some ⟨g, 0, none⟩) 1 1) ∧ w.heap[g]? = some (.cells (if i = 0 then ca else cb) 40 (0, 0)) ∧ some g ≠ v.ownBlock
theorem Lw.below {B : Nat} {w W : World} {v : Value} {n : Nat} {ca cb : Array Value} (h : Lw B w v n ca cb) (hb : Below w.heap.size w W) : Lw B W v n ca cb := by
  obtain ⟨xs, h1, h2⟩ := h.own
  refine ⟨xs, row_heap4 h1 (fun k hk => hb.block k (own_blk_lt h1 k hk)), fun i hi => ?_⟩
  obtain ⟨g, q1, q2, q3⟩ := h2 i hi
  exact ⟨g, q1, (hb.block g (lt_of_block q2)).trans q2, q3⟩
theorem Lw.slice {B : Nat} {w : World} {v : Value} {n : Nat} {ca cb : Array Value} (h : Lw B w v n ca cb) : ∃ A c, v = .slice A n c := by
  obtain ⟨xs, h1, _⟩ := h.own
  rcases h1.2 with ⟨e1, e2⟩ | ⟨q, cap, cur, e1, _⟩
  · exact ⟨none, 0, by rw [e1, e2]⟩
  · exact ⟨_, _, e1⟩
def listOf (ea eb : En) (n : Nat) : List (List En) := (List.range n).map (fun i => [if i = 0 then ea else eb])
theorem Lw.ls {B : Nat} {w : World} {A : Option Addr} {c n : Nat} {ca cb : Array Value} {ea eb : En} (h : Lw B w (.slice A n c) n ca cb) (hn : n ≤ 1000000) (ha : EnC w ca ea) (hb : EnC w cb eb) : Ls w A n c (listOf ea eb n) := by
  obtain ⟨xs, h1, h2⟩ := h.own
  have hlen : (listOf ea eb n).length = n := by simp [listOf]
  refine ⟨hlen, hn, ?_, fun hp => ?_⟩
  · intro e
    subst e
    rcases h1.2 with ⟨e1, e2⟩ | ⟨q, cap, cur, e1, _⟩
    · injection e1 with e3 e4 e5
      exact ⟨e2, e5⟩
    · injection e1 with e3
      cases e3
  · rcases h1.2 with ⟨e1, e2⟩ | ⟨q, cap, cur, e1, _⟩
    · omega
    · injection e1 with e3 e4 e5
      subst e3
      refine ⟨_, rfl, fun i hi => ?_⟩
      obtain ⟨g, q1, q2, q3⟩ := h2 i hi
      have hg : (listOf ea eb n).getD i [] = [if i = 0 then ea else eb] := by simp [listOf, List.getD, hi]
      rw [hg]
      refine ⟨some ⟨g, 0, none⟩, 1, ?_, ?_⟩
      · exact h1.cells (g := q) rfl i _ q1
      · refine es_one q2 ?_
        by_cases h0 : i = 0
        · rw [if_pos h0, if_pos h0]; exact ha
        · rw [if_neg h0, if_neg h0]; exact hb
end Go.Proofs.Ytpgkpigpehehmaa.Bas
