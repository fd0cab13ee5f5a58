import Derived.Test.YtinffeffffligaaBlZa
import Derived.Deep.RegionHeld3
import Derived.Deep.RegionWith
import Derived.Deep.RegionLaw
set_option linter.unusedVariables false
set_option linter.unusedSimpArgs false
namespace Go.Proofs.Ytinffeffffligaa.Bas
open Go.RowKit Go.Maps

/-! ### The reader of a block: its state, and its numbers in one form -/
structure Rr (B : Nat) (w : World) (g : Nat) (A : Option Addr) (n c : Nat) (xs : List Int) (a : Nat) (last : List Int) (ps : List Pr) (v2 v3 v4 v5 : Value) : Prop where
  head : w.heap[g]? = some (.cells #[.slice A n c, .int .i64 (a : Nat), v2, v3, v4, v5] 87 (0, 0))
  rd : Rd w .u8 A n c xs
  nu : Nu .u8 5 B w v2 last
  ow : Ow B w v3 ps
  gB : g < B
  low : ∀ ad, A = some ad → 0 < n → ad.block < B ∧ ad.block ≠ g
  far : ∀ p ∈ ps, ∀ A n c, Value.slice (some A) n c ∈ p.1.toList → 0 < n → B ≤ A.block
theorem ow_kept {B : Nat} {w W : World} {S : Nat → Prop} {v : Value} {ps : List Pr} (h : Ow B w v ps) (hf : Fr w W S) (h1 : ∀ q, v.ownBlock = some q → ¬ S q)
    (h2 : ∀ p ∈ ps, ∀ A n c, Value.slice (some A) n c ∈ p.1.toList → 0 < n → ¬ S A.block) : Ow B W v ps :=
  ⟨row_heap4 h.own (fun k hk => hf.block k (own_blk_lt h.own k hk) (h1 k hk)), fun p hp => (h.en p hp).kept hf (h2 p hp), h.apart⟩
theorem Rr.moved {B : Nat} {w W : World} {g : Nat} {A : Option Addr} {n c : Nat} {xs : List Int} {a t : Nat} {last : List Int} {ps : List Pr} {v2 v3 v4 v5 : Value} (h : Rr B w g A n c xs a last ps v2 v3 v4 v5) (hf : Fr w W (fun k => k = g))
    (hh : W.heap[g]? = some (.cells #[.slice A n c, .int .i64 (t : Nat), v2, v3, v4, v5] 87 (0, 0))) : Rr B W g A n c xs t last ps v2 v3 v4 v5 :=
  ⟨hh, h.rd.kept hf (fun ad e hn => (h.low ad e hn).2), h.nu.kept hf (fun q hq e => by have := h.nu.base q hq; have := h.gB; omega),
    ow_kept h.ow hf (fun q hq e => by have := h.ow.base q hq; have := h.gB; omega) (fun p hp A n c hm hn e => by have := h.far p hp A n c hm hn; have := h.gB; omega), h.gB, h.low, h.far⟩
theorem Rr.below {B : Nat} {w W : World} {g : Nat} {A : Option Addr} {n c : Nat} {xs : List Int} {a : Nat} {last : List Int} {ps : List Pr} {v2 v3 v4 v5 : Value} (h : Rr B w g A n c xs a last ps v2 v3 v4 v5) (hb : Below w.heap.size w W) : Rr B W g A n c xs a last ps v2 v3 v4 v5 :=
  ⟨(hb.block g (lt_of_block h.head)).trans h.head, h.rd.below hb, h.nu.below hb, h.ow.below hb, h.gB, h.low, h.far⟩
/-- What number tells, in one form. -/
def NumG (xs : List Int) (n at_ limit g : Nat) (v0 v2 v3 v4 v5 : Value) (w : World) (e : Ending) (w' : World) : Prop :=
  Fr w w' (fun k => k = g) ∧ ∃ (ok : Bool) (x t : Nat), e = .returned (.tuple #[.int .i64 (x : Nat), .bool ok]) ∧ w'.heap[g]? = some (.cells #[v0, .int .i64 (t : Nat), v2, v3, v4, v5] 87 (0, 0)) ∧ t ≤ n ∧ x ≤ limit ∧
    (ok = true → VarAt xs at_ x t) ∧ (ok = false → ∀ x t, VarAt xs at_ x t → limit < x)
theorem number_gen {w : World} {g : Nat} {A : Option Addr} {n c at_ limit : Nat} {xs : List Int} {v2 v3 v4 v5 : Value} (hg : w.heap[g]? = some (.cells #[.slice A n c, .int .i64 (at_ : Nat), v2, v3, v4, v5] 87 (0, 0)))
    (h : Rd w .u8 A n c xs) (hc : n ≤ c) (hb : Byt xs) (ha : at_ ≤ n) (hlim : limit < 9223372036854775808) :
    Calls Try.prog 68 #[.pointer (some ⟨g, 0, none⟩), .int .u64 (limit : Nat)] w (NumG xs n at_ limit g (.slice A n c) v2 v3 v4 v5 w) := by
  have hl := h.len
  refine (number_any hg h hc hb ha hlim).mono ?_
  rintro e w' ⟨hf, (⟨x, t, hv, hx, rfl, hh⟩ | ⟨hn, rfl, hh⟩)⟩
  · exact ⟨hf, true, x, t, rfl, hh, by have := hv.le; omega, hx, fun _ => hv, fun e => by cases e⟩
  · exact ⟨hf, false, 0, at_, rfl, hh, ha, Nat.zero_le _, (fun e => by cases e), fun _ => hn⟩
/-- append(r.l, x), as one step of a region that draws: and where the row lies. -/
theorem step_append_ow2 {B : Nat} {w : World} {ops : Array Oper} {o : Oper} {a : Act} {K : Act → World → Prop} {Q : Exit → Act → World → Prop} {E : Prop} (hgd : o.guard = none) (s x : Operand)
    (ho : o.op = .call { callee := .builtin .append, args := #[s, x], argTypes := #[22, 22] })
    (v : Value) (ps : List Pr) (vs : Array Value) (en : En) (ad : Addr) (c : Nat) (hs : a.eval s = v) (hx : a.eval x = .slice (some ad) 1 c) (h : Ow B w v ps) (he : EnC w vs en)
    (hf : ∀ A n c, Value.slice (some A) n c ∈ vs.toList → 0 < n → some A.block ≠ v.ownBlock) (hc : ∀ j u, vs[j]? = some u → w.cell? (ad.add j) = some u) (hl : ps.length + 1 ≤ 2000000) (hbase : B ≤ w.heap.size)
    (hnext : ∀ A' n' c' w', Ow B w' (.slice A' n' c') (ps ++ [(vs, en)]) → Fr w w' (fun q => some q = v.ownBlock) → ((Value.slice A' n' c').ownBlock = v.ownBlock ∨ ∃ q, (Value.slice A' n' c').ownBlock = some q ∧ w.heap.size ≤ q) → K (a.put o.dst (.slice A' n' c')) w') :
    if Region.wanted o (yielded ops a.tmps) = true then Oper.wp Try.prog o a w K Q else E := by
  have hw : Region.wanted o (yielded ops a.tmps) = true := by simp [Region.wanted, hgd]
  rw [if_pos hw]
  obtain ⟨i0, hi, hz0, hz1, hz2⟩ := info_parts Try.infoEn
  have hone : ∀ p ∈ [(vs, en)], EnC w p.1 p.2 := fun p hp => by rw [List.mem_singleton.1 hp]; exact he
  have hfl : flat4 [(vs, en)] = vs.toList := by simp [flat4]
  have hlen : (flat4 [(vs, en)]).length = 1 * 4 := flat4_length hone
  have hall : ∀ p ∈ ps ++ [(vs, en)], EnC w p.1 p.2 ∧ ∀ A n c, Value.slice (some A) n c ∈ p.1.toList → 0 < n → some A.block ≠ v.ownBlock := fun p hp => by
    rcases List.mem_append.1 hp with hp | hp
    · exact ⟨h.en p hp, h.apart p hp⟩
    · rw [List.mem_singleton.1 hp]; exact ⟨he, hf⟩
  obtain ⟨v', w', hr, h1, h2, h3, h4⟩ := run_append_own_at (P := Try.prog) w B 22 o.type 48 i0 _ 4 64 Try.underlying22 hi hz0 hz1 hz2 rfl (by omega) v ps.length (flat4 ps) h.own ad 1 c (flat4 [(vs, en)]) hlen (fun j u hu => hc j u (by rw [hfl] at hu; simpa using hu)) (flat4_one hone) (by unfold maxLen; omega) (by omega) hbase
  unfold Oper.wp execOp
  simp only [ho, resolve, invoke, builtin, Sem.run_bind, Sem.run_pure, Result.andThen_ok, List.map_toArray, List.map_cons, List.map_nil, hs, hx, hr]
  have hO : Ow B w' v' (ps ++ [(vs, en)]) := by
    refine ⟨?_, fun p hp => ?_, fun p hp A n c hm hn => ?_⟩
    · rw [flat4_append, List.length_append]; exact h1
    · exact (hall p hp).1.kept (Fr.grown (S := fun k => some k = v.ownBlock) (Fr.refl w _) h2 (fun k hk => .inl hk.symm)) (fun A n c hm hn => (hall p hp).2 A n c hm hn)
    · rcases h4 with h4 | h4
      · rw [h4]; exact (hall p hp).2 A n c hm hn
      · rw [h4]
        have := (hall p hp).1.lt A n c hm hn
        intro e
        injection e with e
        omega
  obtain ⟨A', c', rfl⟩ := hO.slice
  refine hnext A' _ c' w' hO (Fr.grown (S := fun q => some q = v.ownBlock) (Fr.refl w _) h2 (fun q hq => .inl hq.symm)) ?_
  rcases h4 with h4 | h4
  · exact .inl h4
  · exact .inr ⟨_, h4, Nat.le_refl _⟩
theorem put4 {w : World} {g : Nat} {a b c d : Value} {t : TypeId} (h : w.heap[g]? = some (.cells #[a, b, c, d] t (0, 0))) (u0 u1 u2 u3 : Value) :
    ((((w.setCell ⟨g, 0, none⟩ u0).setCell ⟨g, 1, none⟩ u1).setCell ⟨g, 2, none⟩ u2).setCell ⟨g, 3, none⟩ u3).heap[g]? = some (.cells #[u0, u1, u2, u3] t (0, 0)) ∧ Fr w ((((w.setCell ⟨g, 0, none⟩ u0).setCell ⟨g, 1, none⟩ u1).setCell ⟨g, 2, none⟩ u2).setCell ⟨g, 3, none⟩ u3) (fun k => k = g) := by
  have a1 := heap_setCell_same w _ 0 _ _ u0 h
  have a2 := heap_setCell_same _ _ 1 _ _ u1 a1
  have a3 := heap_setCell_same _ _ 2 _ _ u2 a2
  have a4 := heap_setCell_same _ _ 3 _ _ u3 a3
  refine ⟨a4, ?_⟩
  have f0 : Fr w w (fun k => k = g) := Fr.refl w _
  exact (((f0.setCell (a := ⟨g, 0, none⟩) (.inl rfl) u0).setCell (a := ⟨g, 1, none⟩) (.inl rfl) u1).setCell (a := ⟨g, 2, none⟩) (.inl rfl) u2).setCell (a := ⟨g, 3, none⟩) (.inl rfl) u3
/-- A world is named by what is known of it. -/
theorem as_world {Q : Exit → Act → World → Prop} {x : Exit} {a : Act} {V : World} (F : World → Prop) (hF : F V) (h : ∀ W, F W → Q x a W) : Q x a V := h V hF
theorem Rr.push {B : Nat} {w V U : World} {g : Nat} {A : Option Addr} {n c : Nat} {xs : List Int} {a : Nat} {last : List Int} {ps : List Pr} {v2 v3 v4 v5 l k : Value} {vs : Array Value} {en : En} {ky : List Int} (h : Rr B w g A n c xs a last ps v2 v3 v4 v5)
    (hf : Fr w V (fun q => some q = v3.ownBlock)) (ho : Ow B V l (ps ++ [(vs, en)])) (hk : Nu .u8 5 B V k ky) (hvs : ∀ A n c, Value.slice (some A) n c ∈ vs.toList → 0 < n → B ≤ A.block)
    (hu : Fr V U (fun q => q = g)) (hh : U.heap[g]? = some (.cells #[.slice A n c, .int .i64 (a : Nat), k, l, v4, v5] 87 (0, 0))) : Rr B U g A n c xs a ky (ps ++ [(vs, en)]) k l v4 v5 := by
  have hg := h.gB
  have hfar : ∀ p ∈ ps ++ [(vs, en)], ∀ A n c, Value.slice (some A) n c ∈ p.1.toList → 0 < n → B ≤ A.block := fun p hp => by
    rcases List.mem_append.1 hp with hp | hp
    · exact h.far p hp
    · rw [List.mem_singleton.1 hp]; exact hvs
  refine ⟨hh, (h.rd.kept hf (fun ad e hn he => ?_)).kept hu (fun ad e hn => (h.low ad e hn).2), hk.kept hu (fun q hq e => by have := hk.base q hq; omega), ow_kept ho hu (fun q hq e => by have := ho.base q hq; omega) (fun p hp A n c hm hn e => by have := hfar p hp A n c hm hn; omega), hg, h.low, hfar⟩
  have h1 := h.ow.base ad.block he.symm
  have h2 := (h.low ad e hn).1
  omega
/-! ### The reader of a block: an entry -/
def EntP (B : Nat) (w : World) (g : Nat) (A : Option Addr) (n c : Nat) (xs : List Int) (a : Nat) (last : List Int) (rs : Bool) (ps : List Pr) (v3 v4 v5 : Value) (e : Ending) (w' : World) : Prop :=
  Fr w w' (fun k => k = g ∨ some k = v3.ownBlock) ∧
    ((∃ en t vs v2' v3', StepE xs last rs (ps.map (fun p : Pr => p.2)) a en t ∧ e = .returned (.bool true) ∧ Rr B w' g A n c xs t (kb en.k) (ps ++ [(vs, en)]) v2' v3' v4 v5 ∧ Byt (kb en.k) ∧ (∀ q, v2'.ownBlock = some q → w.heap.size ≤ q) ∧
        (v3'.ownBlock = v3.ownBlock ∨ ∃ q, v3'.ownBlock = some q ∧ w.heap.size ≤ q) ∧ ∀ A n c, Value.slice (some A) n c ∈ vs.toList → 0 < n → w.heap.size ≤ A.block) ∨
      ((∀ en t, ¬ StepE xs last rs (ps.map (fun p : Pr => p.2)) a en t) ∧ e = .returned (.bool false)))
end Go.Proofs.Ytinffeffffligaa.Bas
