import Derived.Test.YtinffeffffligaaBlA
import Derived.Handy
import Derived.Deep.RegionHeld3
set_option linter.unusedVariables false
set_option linter.unusedSimpArgs false
namespace Go.Proofs.Ytinffeffffligaa.Bas
open Go.RowKit Go.Maps

abbrev Pr := Array Value × En
def flat4 (ps : List Pr) : List Value := (ps.map fun p => p.1.toList).flatten
theorem enC_size {w : World} {vs : Array Value} {e : En} (h : EnC w vs e) : vs.size = 4 := by
  obtain ⟨A, n, c, A', n', c', rfl, _⟩ := h
  rfl
theorem flat4_length {w : World} : ∀ {ps : List Pr}, (∀ p ∈ ps, EnC w p.1 p.2) → (flat4 ps).length = ps.length * 4
  | [], _ => rfl
  | p :: r, h => by
    have ih := flat4_length (ps := r) (fun q hq => h q (List.mem_cons_of_mem _ hq))
    have h0 := enC_size (h p (List.mem_cons_self ..))
    unfold flat4 at ih ⊢
    rw [List.map_cons, List.flatten_cons, List.length_append, ih, Array.length_toList, h0, List.length_cons]
    omega
theorem flat4_append (a b : List Pr) : flat4 (a ++ b) = flat4 a ++ flat4 b := by simp [flat4]
/-- A read slice of entries as cells in a row. -/
theorem Es.flat {w : World} {b off : Nat} : ∀ {es : List En} (k : Nat),
    (∀ i, i < es.length → ∃ vs, EnC w vs (es.getD i enD) ∧ ∀ j v, vs[j]? = some v → w.cell? ⟨b, off + (k + i) * 4 + j, none⟩ = some v) →
    ∃ ps : List Pr, ps.map (·.2) = es ∧ (∀ p ∈ ps, EnC w p.1 p.2) ∧ ∀ j u, (flat4 ps)[j]? = some u → w.cell? ⟨b, off + k * 4 + j, none⟩ = some u
  | [], k, _ => ⟨[], rfl, (fun p h => by cases h), (fun j u h => by simp [flat4] at h)⟩
  | e :: r, k, h => by
    obtain ⟨vs, h1, h2⟩ := h 0 (by simp)
    obtain ⟨ps, q1, q2, q3⟩ := Es.flat (es := r) (k + 1) (fun i hi => by
      obtain ⟨us, u1, u2⟩ := h (i + 1) (by simpa using hi)
      refine ⟨us, by simpa [List.getD] using u1, fun j v hv => ?_⟩
      have := u2 j v hv
      rwa [show k + 1 + i = k + (i + 1) by omega])
    refine ⟨(vs, e) :: ps, by rw [List.map_cons, q1], ?_, ?_⟩
    · intro p hp
      rcases List.mem_cons.1 hp with rfl | hp
      · simpa [List.getD] using h1
      · exact q2 p hp
    · intro j u hu
      have h4 := enC_size h1
      have hl : vs.toList.length = 4 := by rw [Array.length_toList]; exact h4
      unfold flat4 at hu q3
      rw [List.map_cons, List.flatten_cons] at hu
      by_cases hj : j < 4
      · rw [List.getElem?_append_left (by simpa [hl] using hj)] at hu
        have := h2 j u (by simpa using hu)
        simpa using this
      · rw [List.getElem?_append_right (by simp [h4]; omega)] at hu
        simp only [hl] at hu
        have := q3 (j - 4) u hu
        rwa [show off + (k + 1) * 4 + (j - 4) = off + k * 4 + j by omega] at this
theorem Es.some {w : World} {A : Option Addr} {n c : Nat} {es : List En} (h : Es w A n c es) (hn : 0 < n) :
    ∃ b off ps, A = some ⟨b, off, none⟩ ∧ ps.map (·.2) = es ∧ (∀ p ∈ ps, EnC w p.1 p.2) ∧ ∀ j u, (flat4 ps)[j]? = some u → w.cell? ((⟨b, off, none⟩ : Addr).add j) = some u := by
  obtain ⟨b, off, e, hc⟩ := h.cell hn
  obtain ⟨ps, h1, h2, h3⟩ := Es.flat (w := w) (b := b) (off := off) (es := es) 0 (fun i hi => by
    rw [h.len] at hi
    obtain ⟨vs, u1, u2⟩ := hc i hi
    exact ⟨vs, u1, fun j v hv => by have := u2 j v hv; rwa [Nat.zero_add]⟩)
  refine ⟨b, off, ps, e, h1, h2, fun j u hu => ?_⟩
  have := h3 j u hu
  rw [Nat.zero_mul, Nat.add_zero] at this
  rwa [Addr.add_lit]
theorem flat4_one {w : World} {ps : List Pr} (h : ∀ p ∈ ps, EnC w p.1 p.2) : ∀ u ∈ flat4 ps, u.oneCell' = true := by
  intro u hu
  unfold flat4 at hu
  obtain ⟨l, hl, hu⟩ := List.mem_flatten.1 hu
  obtain ⟨p, hp, rfl⟩ := List.mem_map.1 hl
  obtain ⟨A, n, c, A', n', c', hv, _⟩ := h p hp
  rw [hv] at hu
  simp at hu
  rcases hu with rfl | rfl | rfl | rfl <;> rfl
theorem Try.infoEn : (Try.prog.info? 48).map (fun i => (i.zero, i.size, i.bytes)) = some (some (.agg #[.slice none 0 0, .int .u64 0, .int .i64 0, .slice none 0 0]), 4, 64) := by kernel_rfl
theorem flat4_get {w0 : World} : ∀ (ps : List Pr), (∀ p ∈ ps, EnC w0 p.1 p.2) → ∀ j, j < ps.length * 4 → (flat4 ps)[j]? = ((ps.getD (j / 4) (#[], enD)).1.toList)[j % 4]?
  | [], _, j, hj => by simp at hj
  | p :: r, h, j, hj => by
    have h4 := enC_size (h p (List.mem_cons_self ..))
    have hl : p.1.toList.length = 4 := by rw [Array.length_toList]; exact h4
    have ih := flat4_get r (fun q hq => h q (List.mem_cons_of_mem _ hq))
    unfold flat4 at ih ⊢
    rw [List.map_cons, List.flatten_cons]
    by_cases hj4 : j < 4
    · rw [List.getElem?_append_left (by omega), Nat.div_eq_of_lt hj4, Nat.mod_eq_of_lt hj4]
      rfl
    · have hj' : j - 4 < r.length * 4 := by rw [List.length_cons] at hj; omega
      rw [List.getElem?_append_right (by omega), hl, ih (j - 4) hj']
      have e1 : j / 4 = (j - 4) / 4 + 1 := by omega
      have e2 : j % 4 = (j - 4) % 4 := by omega
      rw [e1, e2]
      rfl
/-! ### A row of entries of the call's own, with their bytes in other blocks -/
theorem row_heap4 {w W : World} {B e n size : Nat} {v : Value} {xs : List Value} (h : w.ownsRow B e size v n xs) (hk : ∀ k, v.ownBlock = some k → W.heap[k]? = w.heap[k]?) : W.ownsRow B e size v n xs := by
  obtain ⟨h1, h2⟩ := h
  refine ⟨h1, ?_⟩
  rcases h2 with h2 | ⟨g, cap, cur, hv, hg, hh, r⟩
  · exact .inl h2
  · exact .inr ⟨g, cap, cur, hv, hg, by rw [hk g (by rw [hv]; rfl)]; exact hh, r⟩
theorem own_blk_lt {w : World} {B e n size : Nat} {v : Value} {xs : List Value} (h : w.ownsRow B e size v n xs) : ∀ k, v.ownBlock = some k → k < w.heap.size := by
  intro k hk
  rcases h.2 with ⟨e1, _⟩ | ⟨g, cap, cur, e1, _, hh, _⟩
  · rw [e1] at hk; cases hk
  · rw [e1] at hk
    cases hk
    exact lt_of_block hh
theorem EnC.kept {w W : World} {S : Nat → Prop} {vs : Array Value} {e : En} (h : EnC w vs e) (hf : Fr w W S) (ha : ∀ A n c, Value.slice (some A) n c ∈ vs.toList → 0 < n → ¬ S A.block) : EnC W vs e := by
  obtain ⟨A, n, c, A', n', c', rfl, h1, h2, h3, h4⟩ := h
  exact ⟨A, n, c, A', n', c', rfl, h1.kept hf (fun ad e hn => ha ad n c (by rw [e]; simp) hn), h2, h3.kept hf (fun ad e hn => ha ad n' c' (by rw [e]; simp) hn), h4⟩
theorem EnC.lt {w : World} {vs : Array Value} {e : En} (h : EnC w vs e) : ∀ A n c, Value.slice (some A) n c ∈ vs.toList → 0 < n → A.block < w.heap.size := by
  obtain ⟨A, n, c, A', n', c', rfl, h1, h2, h3, h4⟩ := h
  intro B m d hm hn
  simp at hm
  rcases hm with ⟨e1, e2, e3⟩ | ⟨e1, e2, e3⟩
  · exact h1.lt B e1.symm (by omega)
  · exact h3.lt B e1.symm (by omega)
structure Ow (B : Nat) (w : World) (v : Value) (ps : List Pr) : Prop where
  own : w.ownsRow B 48 4 v ps.length (flat4 ps)
  en : ∀ p ∈ ps, EnC w p.1 p.2
  apart : ∀ p ∈ ps, ∀ A n c, Value.slice (some A) n c ∈ p.1.toList → 0 < n → some A.block ≠ v.ownBlock
theorem Ow.nil (B : Nat) (w : World) : Ow B w (.slice none 0 0) [] := ⟨⟨rfl, .inl ⟨rfl, rfl⟩⟩, (fun p hp => by cases hp), (fun p hp => by cases hp)⟩
theorem Ow.below {B : Nat} {w W : World} {v : Value} {ps : List Pr} (h : Ow B w v ps) (hb : Below w.heap.size w W) : Ow B W v ps :=
  ⟨row_heap4 h.own (fun k hk => hb.block k (own_blk_lt h.own k hk)), fun p hp => (h.en p hp).below hb, h.apart⟩
theorem Ow.slice {B : Nat} {w : World} {v : Value} {ps : List Pr} (h : Ow B w v ps) : ∃ A c, v = .slice A ps.length c := by
  rcases h.own.2 with ⟨e1, e2⟩ | ⟨q, cap, cur, e1, _⟩
  · exact ⟨none, 0, by rw [e1, e2]⟩
  · exact ⟨_, _, e1⟩
theorem Ow.base {B : Nat} {w : World} {v : Value} {ps : List Pr} (h : Ow B w v ps) : ∀ k, v.ownBlock = some k → B ≤ k := by
  intro k hk
  rcases h.own.2 with ⟨e1, _⟩ | ⟨g, cap, cur, e1, hB, _⟩
  · rw [e1] at hk; cases hk
  · rw [e1] at hk
    cases hk
    exact hB
theorem flat4_get1 {w : World} {ps : List Pr} (h : ∀ p ∈ ps, EnC w p.1 p.2) {k j : Nat} (hk : k < ps.length) (hj : j < 4) : (flat4 ps)[k * 4 + j]? = ((ps.getD k (#[], enD)).1)[j]? := by
  rw [flat4_get ps h (k * 4 + j) (by omega), show (k * 4 + j) / 4 = k by omega, show (k * 4 + j) % 4 = j by omega, Array.getElem?_toList]
/-- The cells of an element. -/
theorem Ow.cells {B : Nat} {w : World} {v : Value} {ps : List Pr} (h : Ow B w v ps) {k : Nat} (hk : k < ps.length) : ∃ g c, v = .slice (some ⟨g, 0, none⟩) ps.length c ∧ B ≤ g ∧ ∀ j u, (ps.getD k (#[], enD)).1[j]? = some u → w.cell? ⟨g, k * 4 + j, none⟩ = some u := by
  rcases h.own.2 with ⟨e1, e2⟩ | ⟨q, cap, cur, e1, hB, _⟩
  · rw [e2] at hk; omega
  · refine ⟨q, cap, e1, hB, fun j u hu => ?_⟩
    have h4 := enC_size (h.en (ps.getD k (#[], enD)) (by simp [List.getD, hk]))
    have hj : j < 4 := by have := (Array.getElem?_eq_some_iff.1 hu).1; omega
    have := h.own.cells (g := q) (by rw [e1]; rfl) (k * 4 + j) u ((flat4_get1 h.en hk hj).trans hu)
    rwa [Addr.add_lit, Nat.zero_add] at this
/-- append(v, e): v the call's own or nil, e an entry whose bytes lie elsewhere. -/
theorem wpList_append_one {B : Nat} {w : World} {ops : Array Oper} {rest : List Oper} {o : Oper} {a : Act} {Q : Exit → Act → World → Prop} (hgd : o.guard = none) (s x : Operand)
    (ho : o.op = .call { callee := .builtin .append, args := #[s, x], argTypes := #[22, 22] })
    (v : Value) (ps : List Pr) (vs : Array Value) (en : En) (ad : Addr) (c : Nat) (hs : a.eval s = v) (hx : a.eval x = .slice (some ad) 1 c) (h : Ow B w v ps) (he : EnC w vs en)
    (hf : ∀ A n c, Value.slice (some A) n c ∈ vs.toList → 0 < n → some A.block ≠ v.ownBlock) (hc : ∀ j u, vs[j]? = some u → w.cell? (ad.add j) = some u) (hl : ps.length + 1 ≤ 2000000) (hbase : B ≤ w.heap.size)
    (hnext : ∀ v' w', Ow B w' v' (ps ++ [(vs, en)]) → w.grownBy w' v.ownBlock → (v'.ownBlock = v.ownBlock ∨ v'.ownBlock = some w.heap.size) → wpList Try.prog ops Q rest (a.put o.dst v') w') :
    wpList Try.prog ops Q (o :: rest) a w := by
  obtain ⟨i0, hi, hz0, hz1, hz2⟩ := info_parts Try.infoEn
  have hone : ∀ p ∈ [(vs, en)], EnC w p.1 p.2 := fun p hp => by rw [List.mem_singleton.1 hp]; exact he
  have hfl : flat4 [(vs, en)] = vs.toList := by simp [flat4]
  have hlen : (flat4 [(vs, en)]).length = 1 * 4 := flat4_length hone
  have hall : ∀ p ∈ ps ++ [(vs, en)], EnC w p.1 p.2 ∧ ∀ A n c, Value.slice (some A) n c ∈ p.1.toList → 0 < n → some A.block ≠ v.ownBlock := fun p hp => by
    rcases List.mem_append.1 hp with hp | hp
    · exact ⟨h.en p hp, h.apart p hp⟩
    · rw [List.mem_singleton.1 hp]; exact ⟨he, hf⟩
  refine wpList_append_own_at w hgd s x _ ho B _ i0 _ 4 64 Try.underlying22 hi hz0 hz1 hz2 rfl (by omega) v ps.length (flat4 ps) hs h.own ad 1 c (flat4 [(vs, en)]) hx hlen (fun j u hu => hc j u (by rw [hfl] at hu; simpa using hu)) (flat4_one hone) (by unfold maxLen; omega) (by omega) hbase ?_
  intro v' w' h1 h2 _ h4
  refine hnext v' w' ⟨?_, fun p hp => ?_, fun p hp A n c hm hn => ?_⟩ h2 h4
  · rw [flat4_append, List.length_append]; exact h1
  · exact (hall p hp).1.kept (Fr.grown (S := fun k => some k = v.ownBlock) (Fr.refl w _) h2 (fun k hk => .inl hk.symm)) (fun A n c hm hn => (hall p hp).2 A n c hm hn)
  · rcases h4 with h4 | h4
    · rw [h4]; exact (hall p hp).2 A n c hm hn
    · rw [h4]
      have := (hall p hp).1.lt A n c hm hn
      intro e
      injection e with e
      omega
/-! ### A region that draws its order, reads, and calls what makes memory: walked once, in whatever world that is as the old one below -/
structure Blw (w : World) where
  v : World
  h : Below w.heap.size w v
instance (w : World) : Inhabited (Blw w) := ⟨⟨w, Below.refl _ _⟩⟩
theorem wp_region_below {P : Program} {id : Nat} {Q : Exit → Act → World → Prop} {a : Act} {w : World} {l : List Oper} (hm : P.follows .mixedOrders = true) (hB : Region.lexB .any l.toArray = true)
    (h : wpQuiet P l.toArray (fun w' => ∃ p : Blw w, w' = p.v) (fun a' => ∀ w', (∃ p : Blw w, w' = p.v) → Q .normal a' w') l a) : (Code.region id l.toArray true).wp P Q a w :=
  wp_region_quiet (C := fun w' => ∃ p : Blw w, w' = p.v) hm hB ⟨⟨w.drew, (Below.refl _ _).drew⟩, rfl⟩ (by simpa using h)
theorem calls_blw {P : Program} {f : FuncId} {args : Array Value} {w : World} {p : Blw w} {v : Value} (h : Calls P f args p.v fun e w' => e = .returned v ∧ Below p.v.heap.size p.v w') :
    Calls P f args p.v fun e w'' => e = .returned v ∧ ∃ q : Blw w, w'' = q.v :=
  h.mono fun _ w' ⟨he, hb⟩ => ⟨he, ⟨w', p.h.trans (hb.mono p.h.size)⟩, rfl⟩
theorem calls_blw_same {P : Program} {f : FuncId} {args : Array Value} {w : World} {p : Blw w} {v : Value} (h : Calls P f args p.v fun e w' => e = .returned v ∧ w' = p.v) :
    Calls P f args p.v fun e w'' => e = .returned v ∧ ∃ q : Blw w, w'' = q.v :=
  h.mono fun _ w' ⟨he, hw⟩ => ⟨he, p, hw⟩
theorem blw_cell {w : World} {a : Addr} {v : Value} (h : w.cell? a = some v) (p : Blw w) : p.v.cell? a = some v := cell_kept p.h h
/-- A row of the call's own, as it is read. -/
theorem Ow.es {B : Nat} {w : World} {A : Option Addr} {n c : Nat} {ps : List Pr} (h : Ow B w (.slice A n c) ps) (hn : ps.length ≤ 1000000) : n = ps.length ∧ Es w A n c (ps.map (·.2)) := by
  obtain ⟨A1, c1, e1⟩ := h.slice
  injection e1 with e2 e3 e4
  subst e2 e3 e4
  refine ⟨rfl, ⟨by simp, hn, fun e => ?_, fun hp => ?_⟩⟩
  · subst e
    rcases h.own.2 with ⟨e1, e2⟩ | ⟨q, cap, cur, e1, _⟩
    · injection e1 with _ e3 e4
      exact ⟨e2, e4⟩
    · injection e1 with e3
      cases e3
  · obtain ⟨g, c', e1, _, _⟩ := h.cells (k := 0) hp
    injection e1 with e2 e3 e4
    refine ⟨g, 0, e2, fun i hi => ?_⟩
    obtain ⟨g', c'', e1', _, hc⟩ := h.cells (k := i) hi
    injection e1' with e2' e3' e4'
    have hg : g' = g := by rw [e2] at e2'; injection e2' with e5; injection e5 with e6; exact e6.symm
    subst hg
    have hm : ps.getD i (#[], enD) ∈ ps := by simp [List.getD, hi]
    refine ⟨(ps.getD i (#[], enD)).1, ?_, fun j u hu => by rw [Nat.zero_add]; exact hc j u hu⟩
    have hv : (ps.map (·.2)).getD i enD = (ps.getD i (#[], enD)).2 := by
      simp [List.getD, List.getElem?_map, hi]
    rw [hv]
    exact h.en _ hm
end Go.Proofs.Ytinffeffffligaa.Bas
