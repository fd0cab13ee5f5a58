import Derived.Test.YtinffeffffligaaBlY
import Derived.Test.YtinffeffffligaaBlX
set_option linter.unusedVariables false
set_option linter.unusedSimpArgs false
namespace Go.Proofs.Ytinffeffffligaa.Bas
open Go.RowKit Go.Maps

/-! ### Entries as they stand, up to an end -/
structure LThree (xs last : List Int) (at_ x1 x2 x3 t1 t2 t3 : Nat) : Prop where
  v1 : VarAt xs at_ x1 t1
  v2 : VarAt xs t1 x2 t2
  v3 : VarAt xs t2 x3 t3
  l1 : x1 ≤ last.length
  room : t3 + (x2 + x3) ≤ xs.length
structure LStep (xs last : List Int) (at_ : Nat) (e : En) (t : Nat) : Prop where
  out : ∃ x1 x2 x3 t1 t2 t3, LThree xs last at_ x1 x2 x3 t1 t2 t3 ∧ kb e.k = last.take x1 ++ (xs.drop t3).take x2 ∧ e.val = (xs.drop (t3 + x2)).take x3 ∧ t = t3 + (x2 + x3)
  right : RightK e.k
  seq : 0 ≤ e.k.seq
theorem key_one {a b : Ky} (ha : RightK a) (ha0 : 0 ≤ a.seq) (hb : RightK b) (hb0 : 0 ≤ b.seq) (h : kb a = kb b) : a = b := by
  rw [← kyOf_one ha ha0 rfl, ← kyOf_one hb hb0 rfl, h]
theorem LStep.one {xs last : List Int} {at_ : Nat} {e f : En} {t u : Nat} (h : LStep xs last at_ e t) (g : LStep xs last at_ f u) : e = f ∧ t = u := by
  obtain ⟨x1, x2, x3, t1, t2, t3, H, hk, hv, ht⟩ := h.out
  obtain ⟨y1, y2, y3, s1, s2, s3, G, gk, gv, gt⟩ := g.out
  obtain ⟨rfl, rfl⟩ := H.v1.one G.v1
  obtain ⟨rfl, rfl⟩ := H.v2.one G.v2
  obtain ⟨rfl, rfl⟩ := H.v3.one G.v3
  have ek := key_one h.right h.seq g.right g.seq (hk.trans gk.symm)
  obtain ⟨k, v⟩ := e
  obtain ⟨k', v'⟩ := f
  simp only at ek hv gv
  exact ⟨by rw [ek, hv, gv], ht.trans gt.symm⟩
theorem LStep.grow {xs last : List Int} {at_ : Nat} {e : En} {t : Nat} (h : LStep xs last at_ e t) : at_ + 3 ≤ t ∧ t ≤ xs.length := by
  obtain ⟨x1, x2, x3, t1, t2, t3, H, hk, hv, ht⟩ := h.out
  have l1 := H.v1.len
  have l2 := H.v2.len
  have l3 := H.v3.len
  have p1 := varB_pos x1
  have p2 := varB_pos x2
  have p3 := varB_pos x3
  have := H.room
  omega
/-- From a place on, with a key ahead, these entries stand, up to the end. -/
def Loose (xs : List Int) : Nat → List Int → List En → Prop
  | at_, _, [] => at_ = xs.length
  | at_, last, e :: r => ∃ t, LStep xs last at_ e t ∧ Loose xs t (kb e.k) r
theorem loose_end {xs last : List Int} {at_ : Nat} (h : at_ = xs.length) (r : List En) : Loose xs at_ last r ↔ r = [] := by
  cases r with
  | nil => exact ⟨fun _ => rfl, fun _ => h⟩
  | cons e r =>
    refine ⟨fun ⟨t, hs, _⟩ => ?_, fun e => by cases e⟩
    have := hs.grow
    omega
theorem loose_step {xs last : List Int} {at_ : Nat} {e : En} {t : Nat} (hlt : at_ < xs.length) (h : LStep xs last at_ e t) (r : List En) : Loose xs at_ last r ↔ ∃ s, r = e :: s ∧ Loose xs t (kb e.k) s := by
  cases r with
  | nil => exact ⟨fun (g : at_ = xs.length) => by omega, fun ⟨s, hs, _⟩ => by cases hs⟩
  | cons f r =>
    constructor
    · rintro ⟨u, hu, hr⟩
      obtain ⟨rfl, rfl⟩ := h.one hu
      exact ⟨r, rfl, hr⟩
    · rintro ⟨s, hs, hr⟩
      injection hs with h1 h2
      subst h1 h2
      exact ⟨t, h, hr⟩
theorem loose_none {xs last : List Int} {at_ : Nat} (hlt : at_ < xs.length) (h : ∀ e t, ¬ LStep xs last at_ e t) (r : List En) : ¬ Loose xs at_ last r := by
  cases r with
  | nil => exact fun (g : at_ = xs.length) => by omega
  | cons e r => exact fun ⟨t, hs, _⟩ => h e t hs
/-- What was read so far: whatever entries the bytes are begin so. -/
structure SoFar (xs : List Int) (es : List En) (at_ : Nat) (last : List Int) : Prop where
  out : ∀ r, Loose xs 0 [] r ↔ ∃ s, r = es ++ s ∧ Loose xs at_ last s
theorem soFar_none (xs : List Int) : SoFar xs [] 0 [] := ⟨fun r => ⟨fun h => ⟨r, rfl, h⟩, fun ⟨s, h1, h2⟩ => by rw [h1]; exact h2⟩⟩
theorem SoFar.step {xs : List Int} {es : List En} {at_ : Nat} {last : List Int} (h : SoFar xs es at_ last) (hlt : at_ < xs.length) {e : En} {t : Nat} (hs : LStep xs last at_ e t) : SoFar xs (es ++ [e]) t (kb e.k) := ⟨fun r => by
  rw [h.out r]
  constructor
  · rintro ⟨s, rfl, hl⟩
    obtain ⟨s', rfl, hl'⟩ := (loose_step hlt hs s).1 hl
    exact ⟨s', by simp, hl'⟩
  · rintro ⟨s, rfl, hl⟩
    exact ⟨e :: s, by simp, (loose_step hlt hs _).2 ⟨s, rfl, hl⟩⟩⟩
theorem SoFar.done {xs : List Int} {es : List En} {at_ : Nat} {last : List Int} (h : SoFar xs es at_ last) (he : at_ = xs.length) : ∀ r, Loose xs 0 [] r ↔ r = es := fun r => by
  rw [h.out r]
  constructor
  · rintro ⟨s, rfl, hl⟩
    rw [(loose_end he s).1 hl, List.append_nil]
  · rintro rfl
    exact ⟨[], by simp, (loose_end he []).2 rfl⟩
theorem SoFar.fails {xs : List Int} {es : List En} {at_ : Nat} {last : List Int} (h : SoFar xs es at_ last) (hlt : at_ < xs.length) (hn : ∀ e t, ¬ LStep xs last at_ e t) : ∀ r, ¬ Loose xs 0 [] r := fun r hr => by
  obtain ⟨s, _, hl⟩ := (h.out r).1 hr
  exact loose_none hlt hn s hl
/-- append(out, e), as one step of a region that draws. -/
theorem step_append_ow {B : Nat} {w : World} {ops : Array Oper} {o : Oper} {a : Act} {K : Act → World → Prop} {Q : Exit → Act → World → Prop} {E : Prop} (hgd : o.guard = none) (s x : Operand)
    (ho : o.op = .call { callee := .builtin .append, args := #[s, x], argTypes := #[22, 22] })
    (v : Value) (ps : List Pr) (vs : Array Value) (en : En) (ad : Addr) (c : Nat) (hs : a.eval s = v) (hx : a.eval x = .slice (some ad) 1 c) (h : Ow B w v ps) (he : EnC w vs en)
    (hf : ∀ A n c, Value.slice (some A) n c ∈ vs.toList → 0 < n → some A.block ≠ v.ownBlock) (hc : ∀ j u, vs[j]? = some u → w.cell? (ad.add j) = some u) (hl : ps.length + 1 ≤ 2000000) (hbase : B ≤ w.heap.size)
    (hnext : ∀ A' n' c' w', Ow B w' (.slice A' n' c') (ps ++ [(vs, en)]) → Fr w w' (fun q => some q = v.ownBlock) → Below B w w' → K (a.put o.dst (.slice A' n' c')) w') :
    if Region.wanted o (yielded ops a.tmps) = true then Oper.wp Try.prog o a w K Q else E := by
  have hw : Region.wanted o (yielded ops a.tmps) = true := by simp [Region.wanted, hgd]
  rw [if_pos hw]
  obtain ⟨i0, hi, hz0, hz1, hz2⟩ := info_parts Try.infoEn
  have hone : ∀ p ∈ [(vs, en)], EnC w p.1 p.2 := fun p hp => by rw [List.mem_singleton.1 hp]; exact he
  have hfl : flat4 [(vs, en)] = vs.toList := by simp [flat4]
  have hlen : (flat4 [(vs, en)]).length = 1 * 4 := flat4_length hone
  have hall : ∀ p ∈ ps ++ [(vs, en)], EnC w p.1 p.2 ∧ ∀ A n c, Value.slice (some A) n c ∈ p.1.toList → 0 < n → some A.block ≠ v.ownBlock := fun p hp => by
    rcases List.mem_append.1 hp with hp | hp
    · exact ⟨h.en p hp, h.apart p hp⟩
    · rw [List.mem_singleton.1 hp]; exact ⟨he, hf⟩
  obtain ⟨v', w', hr, h1, h2, h3, h4⟩ := run_append_own_at (P := Try.prog) w B 22 o.type 48 i0 _ 4 64 Try.underlying22 hi hz0 hz1 hz2 rfl (by omega) v ps.length (flat4 ps) h.own ad 1 c (flat4 [(vs, en)]) hlen (fun j u hu => hc j u (by rw [hfl] at hu; simpa using hu)) (flat4_one hone) (by unfold maxLen; omega) (by omega) hbase
  unfold Oper.wp execOp
  simp only [ho, resolve, invoke, builtin, Sem.run_bind, Sem.run_pure, Result.andThen_ok, List.map_toArray, List.map_cons, List.map_nil, hs, hx, hr]
  have hO : Ow B w' v' (ps ++ [(vs, en)]) := by
    refine ⟨?_, fun p hp => ?_, fun p hp A n c hm hn => ?_⟩
    · rw [flat4_append, List.length_append]; exact h1
    · exact (hall p hp).1.kept (Fr.grown (S := fun k => some k = v.ownBlock) (Fr.refl w _) h2 (fun k hk => .inl hk.symm)) (fun A n c hm hn => (hall p hp).2 A n c hm hn)
    · rcases h4 with h4 | h4
      · rw [h4]; exact (hall p hp).2 A n c hm hn
      · rw [h4]
        have := (hall p hp).1.lt A n c hm hn
        intro e
        injection e with e
        omega
  obtain ⟨A', c', rfl⟩ := hO.slice
  exact hnext A' _ c' w' hO (Fr.grown (S := fun q => some q = v.ownBlock) (Fr.refl w _) h2 (fun q hq => .inl hq.symm)) ((Below.refl _ _).grown h2 hbase h.base)
end Go.Proofs.Ytinffeffffligaa.Bas
