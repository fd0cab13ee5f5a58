import Derived.Test.YtinffeffffligaaBlZf
import Derived.Test.YtinffeffffligaaBlZg
import Derived.Test.YtinffeffffligaaBlZh
set_option linter.unusedVariables false
set_option linter.unusedSimpArgs false
namespace Go.Proofs.Ytinffeffffligaa.Bas
open Go.RowKit Go.Maps

/-! ### The reader of a block: all its entries -/
theorem Try.infoI64 : (Try.prog.info? 3).map (fun i => (i.zero, i.size, i.bytes)) = some (some (.int .i64 0), 1, 8) := by kernel_rfl
theorem eight_pos : 0 < 8 := by decide
theorem reader_entry {B : Nat} {w : World} {g : Nat} {A : Option Addr} {n c : Nat} {xs : List Int} {a : Nat} {last : List Int} {ps : List Pr} {Al Ao : Option Addr} {nl cl no co : Nat} {v4 v5 : Value}
    (h : Rr B w g A n c xs a last ps (.slice Al nl cl) (.slice Ao no co) v4 v5) (hB : B ≤ w.heap.size) (hc : n ≤ c) (hb : Byt xs) (hn : n ≤ 1000000) (ha : a ≤ n) (hll : last.length ≤ 264) (hlb : Byt last) (hps : ps.length ≤ 10000) (rs : Bool) :
    Calls Try.prog 63 #[.pointer (some ⟨g, 0, none⟩), .bool rs] w (EntP B w g A n c xs a last rs ps (.slice Ao no co) v4 v5) := by
  cases rs
  · exact reader_entry_f h hB hc hb hn ha hll hlb hps
  · exact reader_entry_t h hB hc hb hn ha hll hlb hps
/-- append to a row of numbers that is there, one element; and where the new row lies. -/
theorem step_append_nu2 {P : Program} {w : World} {ops : Array Oper} {o : Oper} {a : Act} {K : Act → World → Prop} {Q : Exit → Act → World → Prop} {E : Prop} (hgd : o.guard = none) (s x : Operand) (t e : TypeId) (k : IntKind) (bytes B : Nat)
    (ho : o.op = .call { callee := .builtin .append, args := #[s, x], argTypes := #[t, t] })
    (ht : P.underlying t = some (.slice e)) (hinfo : (P.info? e).map (fun i => (i.zero, i.size, i.bytes)) = some (some (.int k 0), 1, bytes)) (hb0 : 0 < bytes)
    (v : Value) (m c : Nat) (xs ys : List Int) (ad : Addr) (hs : a.eval s = v) (hx : a.eval x = .slice (some ad) m c) (hown : Nu k e B w v xs) (hr : Rd w k (some ad) m c ys)
    (hl : (xs.length + m) * bytes ≤ 140737488355328) (hbase : B ≤ w.heap.size)
    (h : ∀ A' n' c' w', Nu k e B w' (.slice A' n' c') (xs ++ ys) → Fr w w' (fun q => some q = v.ownBlock) → ((Value.slice A' n' c').ownBlock = v.ownBlock ∨ ∃ q, (Value.slice A' n' c').ownBlock = some q ∧ w.heap.size ≤ q) → K (a.put o.dst (.slice A' n' c')) w') :
    if Region.wanted o (yielded ops a.tmps) = true then Oper.wp P o a w K Q else E := by
  have hw : Region.wanted o (yielded ops a.tmps) = true := by simp [Region.wanted, hgd]
  rw [if_pos hw]
  obtain ⟨i0, hi, hz0, hz1, hz2⟩ := info_parts hinfo
  have hlen : xs.length + m ≤ 140737488355328 := Nat.le_trans (Nat.le_mul_of_pos_right _ hb0) hl
  have hcell : ∀ j u, (nums k ys)[j]? = some u → w.cell? (ad.add j) = some u := by
    intro j u hu
    have hj : j < ys.length := by
      have := (List.getElem?_eq_some_iff.1 hu).1
      simpa [nums] using this
    obtain ⟨ad', e', hc⟩ := hr.cell (by have := hr.len; omega)
    cases e'
    rw [hc j (by have := hr.len; omega)]
    rw [← hu]
    simp [nums, List.getD, hj]
  obtain ⟨v', w', hrun, h2, h3, h4, h5⟩ := run_append_own_at (P := P) w B t o.type e i0 (.int k 0) 1 bytes ht hi hz0 hz1 hz2 rfl (by omega) v xs.length (nums k xs) hown.own ad m c (nums k ys) (by simp [nums, hr.len]) hcell (ints_oneCell k ys) (by unfold maxLen; omega) hl hbase
  unfold Oper.wp execOp
  simp only [ho, resolve, invoke, builtin, Sem.run_bind, Sem.run_pure, Result.andThen_ok, List.map_toArray, List.map_cons, List.map_nil, hs, hx, hrun]
  obtain ⟨A', c', rfl⟩ := row_slice h2
  refine h A' _ c' w' ⟨by rw [List.length_append, hr.len]; simpa [nums] using h2⟩ (Fr.grown (S := fun q => some q = v.ownBlock) (Fr.refl w _) h3 (fun q hq => .inl hq.symm)) ?_
  rcases h5 with h5 | h5
  · exact .inl h5
  · exact .inr ⟨_, h5, Nat.le_refl _⟩
/-- The row of the begins lies apart from the rest. -/
structure Apt (v2 v3 v4 : Value) (ps : List Pr) : Prop where
  out : ∀ q, v4.ownBlock = some q → v2.ownBlock ≠ some q ∧ v3.ownBlock ≠ some q ∧ ∀ p ∈ ps, ∀ A n c, Value.slice (some A) n c ∈ p.1.toList → 0 < n → A.block ≠ q
theorem Rr.begin {B : Nat} {w V U : World} {g : Nat} {A : Option Addr} {n c : Nat} {xs : List Int} {a : Nat} {last : List Int} {ps : List Pr} {v2 v3 v4 v5 l : Value} (h : Rr B w g A n c xs a last ps v2 v3 v4 v5)
    (hf : Fr w V (fun q => some q = v4.ownBlock)) (hap : Apt v2 v3 v4 ps) (h4 : ∀ q, v4.ownBlock = some q → B ≤ q)
    (hu : Fr V U (fun q => q = g)) (hh : U.heap[g]? = some (.cells #[.slice A n c, .int .i64 (a : Nat), v2, v3, l, v5] 87 (0, 0))) : Rr B U g A n c xs a last ps v2 v3 l v5 := by
  have hg := h.gB
  refine ⟨hh, (h.rd.kept hf (fun ad e hn he => ?_)).kept hu (fun ad e hn => (h.low ad e hn).2), (h.nu.kept hf (fun q hq e => (hap.out q e.symm).1 hq)).kept hu (fun q hq e => by have := h.nu.base q hq; omega),
    ow_kept (ow_kept h.ow hf (fun q hq e => (hap.out q e.symm).2.1 hq) (fun p hp A n c hm hn e => (hap.out _ e.symm).2.2 p hp A n c hm hn rfl)) hu (fun q hq e => by have := h.ow.base q hq; omega) (fun p hp A n c hm hn e => by have := h.far p hp A n c hm hn; omega), hg, h.low, h.far⟩
  have h1 := h4 ad.block he.symm
  have h2 := (h.low ad e hn).1
  omega
theorem intsN_get (R : List Nat) {k : Nat} (h : k < R.length) : (intsN R).getD k 0 = ((R.getD k 0 : Nat) : Int) := by simp [intsN, List.getD, h]
theorem getD_some {R : List Nat} {k x : Nat} (h : k < R.length) (hx : x = R.getD k 0) : R[k]? = some x := by rw [hx]; simp [List.getD, h]
def EntsP (xs : List Int) (R : List Nat) (g : Nat) (A : Option Addr) (n c : Nat) (v5 : Value) (w : World) (e : Ending) (w' : World) : Prop :=
  Fr w w' (fun k => k = g ∨ w.heap.size ≤ k) ∧
    ((∃ ps bs last v2 v3 v4, e = .returned (.bool true) ∧ Rn xs R (ps.map (fun p : Pr => p.2)) bs n last R.length ∧ w'.heap[g]? = some (.cells #[.slice A n c, .int .i64 (n : Nat), v2, v3, v4, v5] 87 (0, 0)) ∧ Ow w.heap.size w' v3 ps ∧ Nu .i64 3 w.heap.size w' v4 (intsN bs) ∧ (∀ p ∈ ps, ∀ A n c, Value.slice (some A) n c ∈ p.1.toList → 0 < n → w.heap.size ≤ A.block)) ∨
      ((∀ fs s, ¬ Fit xs R fs s) ∧ e = .returned (.bool false)))
theorem Apt.entry {v2 v3 v4 v2' v3' : Value} {ps : List Pr} {vs : Array Value} {en : En} {S : Nat} (h : Apt v2 v3 v4 ps) (h4 : ∀ q, v4.ownBlock = some q → q < S) (h2 : ∀ q, v2'.ownBlock = some q → S ≤ q) (h3 : v3'.ownBlock = v3.ownBlock ∨ ∃ q, v3'.ownBlock = some q ∧ S ≤ q)
    (hv : ∀ A n c, Value.slice (some A) n c ∈ vs.toList → 0 < n → S ≤ A.block) : Apt v2' v3' v4 (ps ++ [(vs, en)]) := ⟨fun q hq => by
  have hqS := h4 q hq
  refine ⟨fun e => by have := h2 q e; omega, fun e => ?_, fun p hp A n c hm hn e => ?_⟩
  · rcases h3 with h3 | ⟨z, h3, h5⟩
    · exact (h.out q hq).2.1 (h3.symm.trans e)
    · rw [h3] at e; injection e with e; omega
  · rcases List.mem_append.1 hp with hp | hp
    · exact (h.out q hq).2.2 p hp A n c hm hn e
    · rw [List.mem_singleton.1 hp] at hm
      have := hv A n c hm hn
      omega⟩
theorem Apt.begin {v2 v3 v4 v4' : Value} {ps : List Pr} {w : World} {S : Nat} (h : Apt v2 v3 v4 ps) (h4 : v4'.ownBlock = v4.ownBlock ∨ ∃ q, v4'.ownBlock = some q ∧ S ≤ q) (h2 : ∀ q, v2.ownBlock = some q → q < S) (h3 : ∀ q, v3.ownBlock = some q → q < S)
    (hv : ∀ p ∈ ps, ∀ A n c, Value.slice (some A) n c ∈ p.1.toList → 0 < n → A.block < S) : Apt v2 v3 v4' ps := ⟨fun q hq => by
  rcases h4 with h4 | ⟨z, h4, h5⟩
  · exact h.out q (h4.symm.trans hq)
  · rw [h4] at hq
    injection hq with hq
    subst hq
    exact ⟨fun e => by have := h2 _ e; omega, fun e => by have := h3 _ e; omega, fun p hp A n c hm hn e => by have := hv p hp A n c hm hn; omega⟩⟩
end Go.Proofs.Ytinffeffffligaa.Bas
