import Derived.Test.YtpgkpigpehehmaaMrgM
set_option linter.unusedVariables false
set_option linter.unusedSimpArgs false
namespace Go.Proofs.Ytpgkpigpehehmaa.Bas
open Go.RowKit Go.Maps Go.Sort Go.Shelf

theorem lw_one {B : Nat} {W : World} {g1 g2 : Nat} {ca cb : Array Value} (h2 : W.heap[g2]? = some (.cells #[.slice (some ⟨g1, 0, none⟩) 1 1] 25 (0, 0))) (h1 : W.heap[g1]? = some (.cells ca 40 (0, 0))) (hne : g1 ≠ g2) (hB : B ≤ g2) : Lw B W (.slice (some ⟨g2, 0, none⟩) 1 1) 1 ca cb :=
  ⟨⟨[.slice (some ⟨g1, 0, none⟩) 1 1], ⟨rfl, .inr ⟨g2, 1, _, rfl, hB, h2, Nat.le_refl _, by unfold maxLen; omega, rfl, rfl⟩⟩, fun i hi => by
    obtain rfl : i = 0 := by omega
    exact ⟨g1, rfl, h1, by simp [Value.ownBlock, hne]⟩⟩⟩
theorem dd_same {L : List En} (h : ∀ i j, i < L.length → j < L.length → keyCmp (L.getD i enD).k (L.getD j enD).k = 0) : ∀ k, k < L.length → dd L (k + 1) = [L.getD 0 enD]
  | 0, _ => rfl
  | k + 1, hk => by
    have e1 : dd L (k + 1 + 1) = if k + 1 = 0 ∨ keyCmp (L.getD (k + 1 - 1) enD).k (L.getD (k + 1) enD).k ≠ 0 then dd L (k + 1) ++ [L.getD (k + 1) enD] else dd L (k + 1) := rfl
    rw [e1, Nat.add_sub_cancel, if_neg (by rw [h k (k + 1) (by omega) hk]; simp)]
    exact dd_same h k (by omega)
theorem listOf_flat (ea eb : En) (n : Nat) : (listOf ea eb n).flatten = (List.range n).map (fun i => if i = 0 then ea else eb) := by
  unfold listOf
  generalize List.range n = l
  induction l with
  | nil => rfl
  | cons i r ih => rw [List.map_cons, List.flatten_cons, ih, List.map_cons]; rfl
theorem listOf_len (ea eb : En) (n : Nat) : (listOf ea eb n).flatten.length = n := by rw [listOf_flat]; simp
theorem listOf_get (ea eb : En) (n : Nat) {i : Nat} (hi : i < n) : ((listOf ea eb n).flatten).getD i enD = if i = 0 then ea else eb := by
  rw [listOf_flat]
  simp [List.getD, hi]
theorem listOf_rise (ea eb : En) (n : Nat) : allRise (listOf ea eb n) = true := rise_true (fun k hk => by
  have hk' : k < n := by simpa [listOf] using hk
  simp [listOf, List.getD, hk', risesFrom])
/-- Entries of one key: the first is told. -/
theorem one_left {ea eb : En} {n : Nat} (h1 : keyCmp ea.k ea.k = 0) (h2 : keyCmp ea.k eb.k = 0) (h3 : keyCmp eb.k ea.k = 0) (h4 : keyCmp eb.k eb.k = 0) (hn : 1 ≤ n) {L' : List En} (hR : R0 (listOf ea eb n).flatten L') : dd L' L'.length = [ea] := by
  have hget : ∀ i, i < n → ((listOf ea eb n).flatten).getD i enD = ea ∨ ((listOf ea eb n).flatten).getD i enD = eb := fun i hi => by
    rw [listOf_get ea eb n hi]
    split
    · exact .inl rfl
    · exact .inr rfl
  have hl := listOf_len ea eb n
  have hall : ∀ i j, i < (listOf ea eb n).flatten.length → j < (listOf ea eb n).flatten.length → keyCmp (((listOf ea eb n).flatten).getD i enD).k (((listOf ea eb n).flatten).getD j enD).k = 0 := fun i j hi hj => by
    rcases hget i (by omega) with e | e <;> rcases hget j (by omega) with e' | e' <;> rw [e, e'] <;> assumption
  have e : L' = (listOf ea eb n).flatten := hR (fun x hx y hy => by
    obtain ⟨i, hi, rfl⟩ := List.mem_iff_getElem.1 hx
    obtain ⟨j, hj, rfl⟩ := List.mem_iff_getElem.1 hy
    have := hall i j hi hj
    rw [List.getD_eq_getElem?_getD, List.getD_eq_getElem?_getD, List.getElem?_eq_getElem hi, List.getElem?_eq_getElem hj] at this
    exact this)
  subst e
  have := dd_same hall (n - 1) (by omega)
  rw [show n - 1 + 1 = n by omega] at this
  rw [hl, this, listOf_get ea eb n (by omega)]
  rfl
def OneQ (w0 : World) (ea : En) (e : Ending) (w' : World) : Prop := ∃ A c vs, e = .returned (.tuple #[.slice A 1 c, .int .i64 0]) ∧ Ow w0.heap.size w' (.slice A 1 c) [(vs, ea)] ∧ Below w0.heap.size w0 w'
theorem allq_one {w0 w' : World} {e : Ending} {ea eb : En} {n : Nat} (h : AllQ w0 (listOf ea eb n) R0 e w') (h1 : keyCmp ea.k ea.k = 0) (h2 : keyCmp ea.k eb.k = 0) (h3 : keyCmp eb.k ea.k = 0) (h4 : keyCmp eb.k eb.k = 0) (hn : 1 ≤ n) : OneQ w0 ea e w' := by
  obtain ⟨hb, (⟨hr, _⟩ | ⟨hr, v, ps, L', hR, hL, rfl, hO, hp⟩)⟩ := h
  · rw [listOf_rise] at hr; cases hr
  · rw [one_left h1 h2 h3 h4 hn hR] at hp
    obtain ⟨A, c, rfl⟩ := hO.slice
    match ps, hp with
    | [(vs, x)], hp =>
      simp at hp
      subst hp
      exact ⟨A, c, vs, rfl, hO, hb⟩
theorem all_one {w : World} {A : Option Addr} {c n : Nat} {ca cb : Array Value} {ea eb : En} {B : Nat} (h : Lw B w (.slice A n c) n ca cb) (ha : EnC w ca ea) (hb : EnC w cb eb) (h1 : keyCmp ea.k ea.k = 0) (h2 : keyCmp ea.k eb.k = 0) (h3 : keyCmp eb.k ea.k = 0) (h4 : keyCmp eb.k eb.k = 0) (hn : 1 ≤ n) (hn' : n < 20) :
    Calls Try.prog 8 #[.slice A n c] w (OneQ w ea) :=
  (all_any (h.ls (by omega) ha hb) (by rw [listOf_len]; omega) (sorts_small w _ (by rw [listOf_len]; exact hn')) R0_nil).mono fun e w' hq => allq_one hq h1 h2 h3 h4 hn
theorem back_one' {w : World} {A : Option Addr} {c n : Nat} {ca cb : Array Value} {ea eb : En} {B : Nat} (h : Lw B w (.slice A n c) n ca cb) (ha : EnC w ca ea) (hb : EnC w cb eb) (h1 : keyCmp ea.k ea.k = 0) (h2 : keyCmp ea.k eb.k = 0) (h3 : keyCmp eb.k ea.k = 0) (h4 : keyCmp eb.k eb.k = 0) (hn : 1 ≤ n) (hn' : n < 20) :
    Calls Try.prog 10 #[.slice A n c] w (OneQ w ea) :=
  (back_one (h.ls (by omega) ha hb) (by rw [listOf_len]; omega) (sorts_small w _ (by rw [listOf_len]; exact hn')) R0_nil (fun L' hR => by rw [one_left h1 h2 h3 h4 hn hR]; exact Nat.le_refl _)).mono fun e w' hq => allq_one hq h1 h2 h3 h4 hn
theorem all_none (w : World) : Calls Try.prog 8 #[.slice none 0 0] w fun e w' => ∃ A c, e = .returned (.tuple #[.slice A 0 c, .int .i64 0]) ∧ Below w.heap.size w w' :=
  (all_any (ess := []) (R := R0) ⟨rfl, Nat.zero_le _, fun _ => ⟨rfl, rfl⟩, fun h => absurd h (Nat.lt_irrefl 0)⟩ (by simp) (sorts_small w _ (by simp)) R0_nil).mono fun e w' hq => by
    obtain ⟨hb, (⟨hr, _⟩ | ⟨hr, v, ps, L', hR, hL, rfl, hO, hp⟩)⟩ := hq
    · cases hr
    · have : L' = [] := List.eq_nil_of_length_eq_zero hL
      subst this
      have h0 : ps = [] := by
        have := congrArg List.length hp
        rw [List.length_map] at this
        exact List.eq_nil_of_length_eq_zero this
      subst h0
      obtain ⟨A, c, rfl⟩ := hO.slice
      exact ⟨A, c, rfl, hb⟩
set_option maxHeartbeats 1000000 in
set_option maxRecDepth 100000 in
theorem num_any (w : World) (k : Int) : Calls Try.prog 13 #[.int .i64 k] w fun e w' => e = .returned (.int .i64 k) ∧ w' = w := by
  go_enter Try.func13, Try.ntmps13
  go_wp2
  go_ret
  exact ⟨rfl, rfl⟩
theorem rd_byte {W : World} {g : Nat} {x : Int} {fr : Nat × Nat} (h : W.heap[g]? = some (.cells #[.int .u8 x] 5 fr)) : Rd W .u8 (some ⟨g, 0, none⟩) 1 1 [x] :=
  ⟨rfl, by omega, (fun e => by cases e), fun _ => ⟨_, rfl, fun j hj => by
    obtain rfl : j = 0 := by omega
    rw [Addr.add_lit, cell_of_row W g _ _ _ fr h]
    rfl⟩⟩
def enA : En := ⟨⟨[97], 0, 0⟩, []⟩
theorem all_a (w1 : World) : Calls Try.prog 8 #[.slice (some ⟨w1.heap.size + 1 + 1, 0, none⟩) 1 1]
    (((w1.alloc (.cells #[.int .u8 97] 5 (1, 2))).alloc (.cells #[.slice (some ⟨w1.heap.size, 0, none⟩) 1 1, .int .u64 0, .int .i64 0, .slice none 0 0] 40)).alloc (.cells #[.slice (some ⟨w1.heap.size + 1, 0, none⟩) 1 1] 25)) fun e w' => ∃ A c, e = .returned (.tuple #[.slice A 1 c, .int .i64 0]) ∧ Below w1.heap.size w1 w' := by
  obtain ⟨W, hW⟩ : ∃ W, W = ((w1.alloc (.cells #[.int .u8 97] 5 (1, 2))).alloc (.cells #[.slice (some ⟨w1.heap.size, 0, none⟩) 1 1, .int .u64 0, .int .i64 0, .slice none 0 0] 40)).alloc (.cells #[.slice (some ⟨w1.heap.size + 1, 0, none⟩) 1 1] 25) := ⟨_, rfl⟩
  have hB : Below w1.heap.size w1 W := by rw [hW]; exact ((alloc_below w1 _).alloc (by simp) _).alloc (by simp; omega) _
  have g0 : W.heap[w1.heap.size]? = some (.cells #[.int .u8 97] 5 (1, 2)) := by rw [hW]; exact (((alloc_below _ _).trans ((alloc_below _ _).mono (by simp))).block _ (by simp)).trans (heap_alloc_new w1 _)
  have g1 : W.heap[w1.heap.size + 1]? = some (.cells #[.slice (some ⟨w1.heap.size, 0, none⟩) 1 1, .int .u64 0, .int .i64 0, .slice none 0 0] 40) := by
    rw [hW]
    refine ((alloc_below _ _).block _ (by simp)).trans ?_
    have := heap_alloc_new (w1.alloc (.cells #[.int .u8 97] 5 (1, 2))) (.cells #[.slice (some ⟨w1.heap.size, 0, none⟩) 1 1, .int .u64 0, .int .i64 0, .slice none 0 0] 40)
    simpa using this
  have g2 : W.heap[w1.heap.size + 1 + 1]? = some (.cells #[.slice (some ⟨w1.heap.size + 1, 0, none⟩) 1 1] 25) := by
    rw [hW]
    have := heap_alloc_new ((w1.alloc (.cells #[.int .u8 97] 5 (1, 2))).alloc (.cells #[.slice (some ⟨w1.heap.size, 0, none⟩) 1 1, .int .u64 0, .int .i64 0, .slice none 0 0] 40)) (.cells #[.slice (some ⟨w1.heap.size + 1, 0, none⟩) 1 1] 25)
    simpa using this
  rw [← hW]
  have he : EnC W #[.slice (some ⟨w1.heap.size, 0, none⟩) 1 1, .int .u64 0, .int .i64 0, .slice none 0 0] enA := ⟨_, _, _, _, _, _, rfl, rd_byte g0, (by intro x hx; simp [enA] at hx; omega), Rd.nil0 _ _, (fun x hx => by cases hx)⟩
  refine (all_one (B := w1.heap.size) (lw_one g2 g1 (by omega) (by omega)) he he (by decide) (by decide) (by decide) (by decide) (Nat.le_refl _) (by omega)).mono ?_
  rintro e w' ⟨A, c, vs, rfl, hO, hb⟩
  exact ⟨A, c, rfl, hB.trans (hb.mono hB.size)⟩
set_option maxHeartbeats 4000000 in
set_option maxRecDepth 100000 in
theorem alive_any (w : World) : Calls Try.prog 6 #[] w fun e w' => e = .returned (.bool true) ∧ Below w.heap.size w w' := by
  have kc := fun (w : World) (C : Array Value) (n c : Nat) => Lib.run_convert_bytes_const (P := Try.prog) w 35 5 C n c Try.underlying35 Try.underlying5
  go_enter Try.func6, Try.ntmps6
  go_wp2_with (first
    | (go_at_call_of 8 (Value.slice none 0 0); refine (all_none w).mono ?_; rintro e w1 ⟨A1, c1, rfl, hb1⟩; have HB1 := Kp.mk hb1; clear hb1)
    | (go_at_call 8; refine (all_a w1).mono ?_; rintro e w2 ⟨A2, c2, rfl, hb2⟩; have HB2 := Kp.mk (HB1.out.trans (hb2.mono HB1.out.size)); clear hb2)
    | (go_at_call 13; refine (num_any _ _).mono ?_; rintro e w3 ⟨rfl, rfl⟩))
  go_ret
  exact ⟨rfl, HB2.out⟩
end Go.Proofs.Ytpgkpigpehehmaa.Bas
