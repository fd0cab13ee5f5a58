import Derived.Test.YtpgkpigpehehmaaMrgI
set_option linter.unusedVariables false
set_option linter.unusedSimpArgs false
namespace Go.Proofs.Ytpgkpigpehehmaa.Bas
open Go.RowKit Go.Maps Go.Sort Go.Shelf

/-! ### A row of entries of the call's own, with their bytes in other blocks -/
theorem row_heap4 {w W : World} {B e n size : Nat} {v : Value} {xs : List Value} (h : w.ownsRow B e size v n xs) (hk : ∀ k, v.ownBlock = some k → W.heap[k]? = w.heap[k]?) : W.ownsRow B e size v n xs := by
  obtain ⟨h1, h2⟩ := h
  refine ⟨h1, ?_⟩
  rcases h2 with h2 | ⟨g, cap, cur, hv, hg, hh, r⟩
  · exact .inl h2
  · exact .inr ⟨g, cap, cur, hv, hg, by rw [hk g (by rw [hv]; rfl)]; exact hh, r⟩
theorem own_blk_lt {w : World} {B e n size : Nat} {v : Value} {xs : List Value} (h : w.ownsRow B e size v n xs) : ∀ k, v.ownBlock = some k → k < w.heap.size := by
  intro k hk
  rcases h.2 with ⟨e1, _⟩ | ⟨g, cap, cur, e1, _, hh, _⟩
  · rw [e1] at hk; cases hk
  · rw [e1] at hk
    cases hk
    exact lt_of_block hh
theorem EnC.kept {w W : World} {S : Nat → Prop} {vs : Array Value} {e : En} (h : EnC w vs e) (hf : Fr w W S) (ha : ∀ A n c, Value.slice (some A) n c ∈ vs.toList → 0 < n → ¬ S A.block) : EnC W vs e := by
  obtain ⟨A, n, c, A', n', c', rfl, h1, h2, h3, h4⟩ := h
  exact ⟨A, n, c, A', n', c', rfl, h1.kept hf (fun ad e hn => ha ad n c (by rw [e]; simp) hn), h2, h3.kept hf (fun ad e hn => ha ad n' c' (by rw [e]; simp) hn), h4⟩
theorem EnC.lt {w : World} {vs : Array Value} {e : En} (h : EnC w vs e) : ∀ A n c, Value.slice (some A) n c ∈ vs.toList → 0 < n → A.block < w.heap.size := by
  obtain ⟨A, n, c, A', n', c', rfl, h1, h2, h3, h4⟩ := h
  intro B m d hm hn
  simp at hm
  rcases hm with ⟨e1, e2, e3⟩ | ⟨e1, e2, e3⟩
  · exact h1.lt B e1.symm (by omega)
  · exact h3.lt B e1.symm (by omega)
structure Ow (B : Nat) (w : World) (v : Value) (ps : List Pr) : Prop where
  own : w.ownsRow B 40 4 v ps.length (flat4 ps)
  en : ∀ p ∈ ps, EnC w p.1 p.2
  apart : ∀ p ∈ ps, ∀ A n c, Value.slice (some A) n c ∈ p.1.toList → 0 < n → some A.block ≠ v.ownBlock
theorem Ow.nil (B : Nat) (w : World) : Ow B w (.slice none 0 0) [] := ⟨⟨rfl, .inl ⟨rfl, rfl⟩⟩, (fun p hp => by cases hp), (fun p hp => by cases hp)⟩
theorem Ow.below {B : Nat} {w W : World} {v : Value} {ps : List Pr} (h : Ow B w v ps) (hb : Below w.heap.size w W) : Ow B W v ps :=
  ⟨row_heap4 h.own (fun k hk => hb.block k (own_blk_lt h.own k hk)), fun p hp => (h.en p hp).below hb, h.apart⟩
theorem Ow.slice {B : Nat} {w : World} {v : Value} {ps : List Pr} (h : Ow B w v ps) : ∃ A c, v = .slice A ps.length c := by
  rcases h.own.2 with ⟨e1, e2⟩ | ⟨q, cap, cur, e1, _⟩
  · exact ⟨none, 0, by rw [e1, e2]⟩
  · exact ⟨_, _, e1⟩
theorem Ow.base {B : Nat} {w : World} {v : Value} {ps : List Pr} (h : Ow B w v ps) : ∀ k, v.ownBlock = some k → B ≤ k := by
  intro k hk
  rcases h.own.2 with ⟨e1, _⟩ | ⟨g, cap, cur, e1, hB, _⟩
  · rw [e1] at hk; cases hk
  · rw [e1] at hk
    cases hk
    exact hB
theorem flat4_get1 {w : World} {ps : List Pr} (h : ∀ p ∈ ps, EnC w p.1 p.2) {k j : Nat} (hk : k < ps.length) (hj : j < 4) : (flat4 ps)[k * 4 + j]? = ((ps.getD k (#[], enD)).1)[j]? := by
  rw [flat4_get ps h (k * 4 + j) (by omega), show (k * 4 + j) / 4 = k by omega, show (k * 4 + j) % 4 = j by omega, Array.getElem?_toList]
/-- The cells of an element. -/
theorem Ow.cells {B : Nat} {w : World} {v : Value} {ps : List Pr} (h : Ow B w v ps) {k : Nat} (hk : k < ps.length) : ∃ g c, v = .slice (some ⟨g, 0, none⟩) ps.length c ∧ B ≤ g ∧ ∀ j u, (ps.getD k (#[], enD)).1[j]? = some u → w.cell? ⟨g, k * 4 + j, none⟩ = some u := by
  rcases h.own.2 with ⟨e1, e2⟩ | ⟨q, cap, cur, e1, hB, _⟩
  · rw [e2] at hk; omega
  · refine ⟨q, cap, e1, hB, fun j u hu => ?_⟩
    have h4 := enC_size (h.en (ps.getD k (#[], enD)) (by simp [List.getD, hk]))
    have hj : j < 4 := by have := (Array.getElem?_eq_some_iff.1 hu).1; omega
    have := h.own.cells (g := q) (by rw [e1]; rfl) (k * 4 + j) u ((flat4_get1 h.en hk hj).trans hu)
    rwa [Addr.add_lit, Nat.zero_add] at this
/-- append(v, e): v the call's own or nil, e an entry whose bytes lie elsewhere. -/
theorem wpList_append_one {B : Nat} {w : World} {ops : Array Oper} {rest : List Oper} {o : Oper} {a : Act} {Q : Exit → Act → World → Prop} (hgd : o.guard = none) (s x : Operand)
    (ho : o.op = .call { callee := .builtin .append, args := #[s, x], argTypes := #[25, 25] })
    (v : Value) (ps : List Pr) (vs : Array Value) (en : En) (ad : Addr) (c : Nat) (hs : a.eval s = v) (hx : a.eval x = .slice (some ad) 1 c) (h : Ow B w v ps) (he : EnC w vs en)
    (hf : ∀ A n c, Value.slice (some A) n c ∈ vs.toList → 0 < n → some A.block ≠ v.ownBlock) (hc : ∀ j u, vs[j]? = some u → w.cell? (ad.add j) = some u) (hl : ps.length + 1 ≤ 2000000) (hbase : B ≤ w.heap.size)
    (hnext : ∀ v' w', Ow B w' v' (ps ++ [(vs, en)]) → w.grownBy w' v.ownBlock → (v'.ownBlock = v.ownBlock ∨ v'.ownBlock = some w.heap.size) → wpList Try.prog ops Q rest (a.put o.dst v') w') :
    wpList Try.prog ops Q (o :: rest) a w := by
  obtain ⟨i0, hi, hz0, hz1, hz2⟩ := info_parts Try.infoEn
  have hone : ∀ p ∈ [(vs, en)], EnC w p.1 p.2 := fun p hp => by rw [List.mem_singleton.1 hp]; exact he
  have hfl : flat4 [(vs, en)] = vs.toList := by simp [flat4]
  have hlen : (flat4 [(vs, en)]).length = 1 * 4 := flat4_length hone
  have hall : ∀ p ∈ ps ++ [(vs, en)], EnC w p.1 p.2 ∧ ∀ A n c, Value.slice (some A) n c ∈ p.1.toList → 0 < n → some A.block ≠ v.ownBlock := fun p hp => by
    rcases List.mem_append.1 hp with hp | hp
    · exact ⟨h.en p hp, h.apart p hp⟩
    · rw [List.mem_singleton.1 hp]; exact ⟨he, hf⟩
  refine wpList_append_own_at w hgd s x _ ho B _ i0 _ 4 64 Try.underlying25 hi hz0 hz1 hz2 rfl (by omega) v ps.length (flat4 ps) hs h.own ad 1 c (flat4 [(vs, en)]) hx hlen (fun j u hu => hc j u (by rw [hfl] at hu; simpa using hu)) (flat4_one hone) (by unfold maxLen; omega) (by omega) hbase ?_
  intro v' w' h1 h2 _ h4
  refine hnext v' w' ⟨?_, fun p hp => ?_, fun p hp A n c hm hn => ?_⟩ h2 h4
  · rw [flat4_append, List.length_append]; exact h1
  · exact (hall p hp).1.kept (Fr.grown (S := fun k => some k = v.ownBlock) (Fr.refl w _) h2 (fun k hk => .inl hk.symm)) (fun A n c hm hn => (hall p hp).2 A n c hm hn)
  · rcases h4 with h4 | h4
    · rw [h4]; exact (hall p hp).2 A n c hm hn
    · rw [h4]
      have := (hall p hp).1.lt A n c hm hn
      intro e
      injection e with e
      omega

/-! ### What All does, in plain words -/
/-- The first k entries, each once. -/
def dd (L : List En) : Nat → List En
  | 0 => []
  | k + 1 => if k = 0 ∨ keyCmp (L.getD (k - 1) enD).k (L.getD k enD).k ≠ 0 then dd L k ++ [L.getD k enD] else dd L k
theorem dd_le (L : List En) : ∀ k, (dd L k).length ≤ k
  | 0 => Nat.le_refl _
  | k + 1 => by
    have := dd_le L k
    unfold dd
    split
    · rw [List.length_append, List.length_singleton]; omega
    · omega
/-- What All asks of the sort, at n elements. -/
def SortsAt (w0 : World) (R : List En → List En → Prop) (n : Nat) : Prop :=
  ∀ (W : World) (blk cap : Nat) (d : Array (Cell4 w0)), Below w0.heap.size w0 W → w0.heap.size ≤ blk → HoldsK (encC (w0 := w0)) 4 W blk 0 d → blk < W.heap.size → d.size = n →
    Calls Try.prog 18 #[.slice (some ⟨blk, 0, none⟩) n cap, .func (.func 19) #[] #[]] W fun e w' =>
      e = .returned (.tuple #[]) ∧ ∃ m os, ∃ d' : Array (Cell4 w0), w' = sortWorldK (encC (w0 := w0)) 4 W blk 0 m d' os ∧ d'.size = n ∧ R (d.toList.map (fun x : Cell4 w0 => x.1.2)) (d'.toList.map (fun x : Cell4 w0 => x.1.2))
def allRise (ess : List (List En)) : Bool := ess.all risesFrom
/-- What All tells. -/
def AllQ (w0 : World) (ess : List (List En)) (R : List En → List En → Prop) (e : Ending) (w' : World) : Prop :=
  Below w0.heap.size w0 w' ∧
    ((allRise ess = false ∧ e = .returned (.tuple #[.slice none 0 0, .int .i64 10])) ∨
      (allRise ess = true ∧ ∃ v ps L', R ess.flatten L' ∧ L'.length = ess.flatten.length ∧ e = .returned (.tuple #[v, .int .i64 0]) ∧ Ow w0.heap.size w' v ps ∧ ps.map (·.2) = dd L' L'.length))
theorem rise_false {ess : List (List En)} {k : Nat} (hk : k < ess.length) (h : risesFrom (ess.getD k []) = false) : allRise ess = false := by
  unfold allRise
  rw [List.all_eq_false]
  refine ⟨ess.getD k [], ?_, by simpa [List.getD] using h⟩
  simp [List.getD, hk]
theorem rise_true {ess : List (List En)} (h : ∀ k, k < ess.length → risesFrom (ess.getD k []) = true) : allRise ess = true := by
  unfold allRise
  rw [List.all_eq_true]
  intro x hx
  obtain ⟨i, hi, e⟩ := List.mem_iff_getElem.1 hx
  have := h i hi
  simp [List.getD, hi] at this
  rw [e] at this
  exact this
theorem flat_step {ess : List (List En)} {k : Nat} (hk : k < ess.length) : (ess.take (k + 1)).flatten = (ess.take k).flatten ++ ess.getD k [] := by
  rw [List.take_succ_eq_append_getElem hk, List.flatten_append]
  simp [List.getD, hk]
theorem cell4_of {w0 : World} (x : Cell4 w0) : EnC w0 x.1.1 x.1.2 := x.2
/-- The cells of an element of the sorted row. -/
theorem holds_cells {w0 W : World} {blk : Nat} {d : Array (Cell4 w0)} (h : HoldsK (encC (w0 := w0)) 4 W blk 0 d) {k : Nat} (hk : k < d.size) : ∃ vs, EnC w0 vs ((d.toList.map (fun x : Cell4 w0 => x.1.2)).getD k enD) ∧ ∀ j u, vs[j]? = some u → W.cell? ⟨blk, k * 4 + j, none⟩ = some u := by
  have hx : (d.toList.map (fun x : Cell4 w0 => x.1.2)).getD k enD = (d[k]!).1.2 := by
    rw [getElem!_pos d k hk]
    simp [List.getD, List.getElem?_map, hk]
  refine ⟨(d[k]!).1.1, by rw [hx]; exact (d[k]!).2, fun j u hu => ?_⟩
  have h4 := enC_size (d[k]!).2
  have hj : j < 4 := by have := (Array.getElem?_eq_some_iff.1 hu).1; omega
  have := (h (k * 4 + j) (by rw [size_flatK]; omega)).1
  rw [Nat.zero_add, get_flatK _ _ _ _ (by omega), show (k * 4 + j) / 4 = k by omega, show (k * 4 + j) % 4 = j by omega] at this
  rw [this]
  have hl := encC_len d[k]!
  rw [getElem!_pos (encC d[k]!) j (by omega)]
  have : encC d[k]! = d[k]!.1.1.toList := rfl
  simp only [this]
  rw [Array.getElem_toList]
  exact (Array.getElem?_eq_some_iff.1 hu).2 ▸ rfl
/-! ### A region that draws its order, reads, and calls what makes memory: walked once, in whatever world that is as the old one below -/
structure Blw (w : World) where
  v : World
  h : Below w.heap.size w v
instance (w : World) : Inhabited (Blw w) := ⟨⟨w, Below.refl _ _⟩⟩
theorem wp_region_below {P : Program} {id : Nat} {Q : Exit → Act → World → Prop} {a : Act} {w : World} {l : List Oper} (hm : P.follows .mixedOrders = true) (hB : Region.lexB .any l.toArray = true)
    (h : wpQuiet P l.toArray (fun w' => ∃ p : Blw w, w' = p.v) (fun a' => ∀ w', (∃ p : Blw w, w' = p.v) → Q .normal a' w') l a) : (Code.region id l.toArray true).wp P Q a w :=
  wp_region_quiet (C := fun w' => ∃ p : Blw w, w' = p.v) hm hB ⟨⟨w.drew, (Below.refl _ _).drew⟩, rfl⟩ (by simpa using h)
theorem calls_blw {P : Program} {f : FuncId} {args : Array Value} {w : World} {p : Blw w} {v : Value} (h : Calls P f args p.v fun e w' => e = .returned v ∧ Below p.v.heap.size p.v w') :
    Calls P f args p.v fun e w'' => e = .returned v ∧ ∃ q : Blw w, w'' = q.v :=
  h.mono fun _ w' ⟨he, hb⟩ => ⟨he, ⟨w', p.h.trans (hb.mono p.h.size)⟩, rfl⟩
theorem calls_blw_same {P : Program} {f : FuncId} {args : Array Value} {w : World} {p : Blw w} {v : Value} (h : Calls P f args p.v fun e w' => e = .returned v ∧ w' = p.v) :
    Calls P f args p.v fun e w'' => e = .returned v ∧ ∃ q : Blw w, w'' = q.v :=
  h.mono fun _ w' ⟨he, hw⟩ => ⟨he, p, hw⟩
theorem blw_cell {w : World} {a : Addr} {v : Value} (h : w.cell? a = some v) (p : Blw w) : p.v.cell? a = some v := cell_kept p.h h
end Go.Proofs.Ytpgkpigpehehmaa.Bas
