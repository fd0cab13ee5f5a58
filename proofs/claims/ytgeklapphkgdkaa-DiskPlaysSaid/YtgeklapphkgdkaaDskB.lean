import Derived.Test.YtgeklapphkgdkaaDskA
import Derived.WalkSmall
set_option linter.unusedVariables false
set_option linter.unusedSimpArgs false
namespace Go.Proofs.Ytgeklapphkgdkaa.Dsk
open Go.RowKit Go.Maps

/-! ### What is kept: all but the blocks of S -/
structure Fr (w W : World) (S : Nat → Prop) : Prop where
  os : W.os = w.os
  tape : W.tape = w.tape
  output : W.output = w.output
  size : w.heap.size ≤ W.heap.size
  block : ∀ k, k < w.heap.size → ¬ S k → W.heap[k]? = w.heap[k]?
section
variable {w W W2 : World} {S S2 : Nat → Prop}
theorem Fr.refl (w : World) (S : Nat → Prop) : Fr w w S := ⟨rfl, rfl, rfl, Nat.le_refl _, fun _ _ _ => rfl⟩
theorem Fr.mono (h : Fr w W S) (hs : ∀ k, k < w.heap.size → S k → S2 k) : Fr w W S2 := ⟨h.os, h.tape, h.output, h.size, fun k hk hn => h.block k hk (fun hS => hn (hs k hk hS))⟩
theorem Fr.trans (h : Fr w W S) (k : Fr W W2 S2) (hs : ∀ k, S2 k → S k ∨ w.heap.size ≤ k) : Fr w W2 S :=
  ⟨k.os.trans h.os, k.tape.trans h.tape, k.output.trans h.output, Nat.le_trans h.size k.size, fun i hi hn => (k.block i (Nat.lt_of_lt_of_le hi h.size) (fun h2 => (hs i h2).elim hn (fun h3 => by omega))).trans (h.block i hi hn)⟩
theorem Fr.of_below (h : Below w.heap.size w W) : Fr w W S := ⟨h.os, h.tape, h.output, h.size, fun k hk _ => h.block k hk⟩
theorem Fr.below (h : Fr w W S) (hb : Below W.heap.size W W2) : Fr w W2 S := h.trans (Fr.of_below (S := fun _ => False) hb) (fun _ hk => hk.elim)
theorem Fr.alloc (h : Fr w W S) (o : Obj) : Fr w (W.alloc o) S := h.below ((Below.refl _ _).alloc (Nat.le_refl _) o)
theorem Fr.drew (h : Fr w W S) : Fr w W.drew S := h.below ((Below.refl _ _).drew)
theorem Fr.drewN (h : Fr w W S) (n : Nat) : Fr w (W.drewN n) S := h.below (below_drewN (Below.refl _ _) n)
theorem Fr.grown {row : Option Nat} (h : Fr w W S) (hg : W.grownBy W2 row) (hr : ∀ k, row = some k → S k ∨ w.heap.size ≤ k) : Fr w W2 S :=
  h.trans (S2 := fun k => row = some k) ⟨hg.os, hg.tape, hg.output, hg.size, fun k hk hn => hg.block k hk (fun e => hn e.symm)⟩ hr
theorem Fr.setCell (h : Fr w W S) {a : Addr} (ha : S a.block ∨ w.heap.size ≤ a.block) (u : Value) : Fr w (W.setCell a u) S :=
  h.trans (S2 := fun k => k = a.block) ⟨rfl, rfl, rfl, by simp [World.setCell], fun k _ hn => Below.heap_setCell W a u k hn⟩ (fun k hk => by rw [hk]; exact ha)
theorem Fr.turned {b : Nat} (h : Fr w W S) (ht : W.mapTurned W2 b) (hb : S b ∨ w.heap.size ≤ b) : Fr w W2 S :=
  h.grown ht.grown (fun k hk => by cases hk; exact hb)
/-- Nothing elder than B has turned. -/
theorem Fr.toBelow {B : Nat} (h : Fr w W S) (hB : ∀ k, S k → B ≤ k) (hle : B ≤ w.heap.size) : Below B w W :=
  ⟨h.os, h.tape, h.output, h.size, fun k hk => h.block k (by omega) (fun hS => by have := hB k hS; omega)⟩
theorem Fr.cell (h : Fr w W S) {a : Addr} {v : Value} (hc : w.cell? a = some v) (hS : ¬ S a.block) : W.cell? a = some v := by
  have := h.block a.block (World.block_lt_of_cell? w a hc) hS
  simpa [World.cell?, this] using hc
end

/-! ### A slice of whole numbers that is read -/
structure Rd (w : World) (k : IntKind) (A : Option Addr) (n c : Nat) (xs : List Int) : Prop where
  len : xs.length = n
  max : n ≤ 140737488355328
  nil : A = none → n = 0 ∧ c = 0
  cell : 0 < n → ∃ ad, A = some ad ∧ ∀ j, j < n → w.cell? (ad.add j) = some (.int k (xs.getD j 0))
theorem Rd.kept {w W : World} {k : IntKind} {A : Option Addr} {n c : Nat} {xs : List Int} {S : Nat → Prop} (h : Rd w k A n c xs) (hf : Fr w W S) (hS : ∀ ad, A = some ad → 0 < n → ¬ S ad.block) : Rd W k A n c xs :=
  ⟨h.len, h.max, h.nil, fun hn => by
    obtain ⟨ad, rfl, hc⟩ := h.cell hn
    exact ⟨ad, rfl, fun j hj => hf.cell (hc j hj) (by have := hS ad rfl hn; unfold Addr.add; split <;> exact this)⟩⟩

/-! ### The files -/
structure FE where
  name : List UInt8
  blk : Nat
  row : Value
  b : List Int
  syn : Nat
def FE.abs (x : FE) : List UInt8 × List Int × Nat := (x.name, x.b, x.syn)
def FE.ent (x : FE) : Lit × DataW Nat := (.string x.name, .held x.blk)
abbrev AF := List (List UInt8 × List Int × Nat)
def used : AF → Int
  | [] => 0
  | x :: r => (x.2.1.length : Int) + used r
structure DS where
  room : Int
  files : AF
  fails : List Int
  failed : Int

/-- How a pointer in the map reads. -/
def ptrE : Value → Option (DataW Nat × List MemPlace)
  | .pointer none => some (.nil, [])
  | .pointer (some ⟨b, 0, none⟩) => some (.held b, [])
  | _ => none
theorem ptrE_some (b : Nat) : ptrE (.pointer (some ⟨b, 0, none⟩)) = some (.held b, []) := rfl
theorem ptrE_held {v : Value} {b : Nat} {ps : List MemPlace} (h : ptrE v = some (.held b, ps)) : v = .pointer (some ⟨b, 0, none⟩) := by
  unfold ptrE at h
  split at h <;> simp at h
  obtain ⟨rfl, _⟩ := h; rfl
theorem ptrE_nil {v : Value} {ps : List MemPlace} (h : ptrE v = some (.nil, ps)) : v = .pointer none := by
  unfold ptrE at h
  split at h <;> simp at h
  rfl
def nums (k : IntKind) (xs : List Int) : List Value := xs.map (Value.int k)

def FileAt (w : World) (B : Nat) (S : Nat → Prop) (x : FE) : Prop :=
  w.heap[x.blk]? = some (.cells #[x.row, .int .i64 x.syn] 63 (0, 0)) ∧ w.ownsRow B 5 1 x.row x.b.length (nums .u8 x.b) ∧ B ≤ x.blk ∧ S x.blk ∧ (∀ k, x.row.ownBlock = some k → S k) ∧ x.syn ≤ x.b.length ∧ x.b.length ≤ 16777216
def FailsAt (w : World) (S : Nat → Prop) (B : Nat) (A : Option Addr) (c : Nat) (l : List Int) : Prop :=
  l.length ≤ c ∧ c ≤ 9223372036854775807 ∧ (l = [] ∨ ∃ fb off cs fr, A = some ⟨fb, off, none⟩ ∧ S fb ∧ B ≤ fb ∧ w.heap[fb]? = some (.cells cs 3 fr) ∧ ∀ j, j < l.length → cs[off + j]? = some (.int .i64 (l.getD j 0)))
structure Disk1 (w : World) (B g : Nat) (σ : DS) (S : Nat → Prop) (L : List FE) (mb : Nat) (A : Option Addr) (c : Nat) : Prop where
  abs : L.map FE.abs = σ.files
  top : w.heap[g]? = some (.cells #[.int .i64 σ.room, .map (some mb), .int .i64 (used σ.files), .slice A σ.fails.length c, .int .i64 σ.failed] 59 (0, 0))
  own : w.ownsMap Try.prog 9 ptrE mb L.length (.map (L.map FE.ent))
  file : ∀ x, x ∈ L → FileAt w B S x
  apart : L.Pairwise (fun x y => x.blk ≠ y.blk ∧ (x.row.ownBlock = none ∨ x.row.ownBlock ≠ y.row.ownBlock))
  fails : FailsAt w S B A c σ.fails
  gB : B ≤ g
  gS : S g
  mB : B ≤ mb
  mS : S mb
  most : L.length ≤ 1000
def IsDisk (w : World) (B g : Nat) (σ : DS) (S : Nat → Prop) : Prop := ∃ L mb A c, Disk1 w B g σ S L mb A c

theorem row_heap {w W : World} {B e n : Nat} {v : Value} {xs : List Value} (h : w.ownsRow B e 1 v n xs) (hk : ∀ k, v.ownBlock = some k → W.heap[k]? = w.heap[k]?) : W.ownsRow B e 1 v n xs := by
  obtain ⟨h1, h2⟩ := h
  refine ⟨h1, ?_⟩
  rcases h2 with h2 | ⟨g, cap, cur, hv, hg, hh, r⟩
  · exact .inl h2
  · exact .inr ⟨g, cap, cur, hv, hg, by rw [hk g (by rw [hv]; rfl)]; exact hh, r⟩
theorem map_heap {H : Type} {w W : World} {P : Program} {k b n : Nat} {R : Value → Option (DataW H × List MemPlace)} {D : DataW H} (h : w.ownsMap P k R b n D) (hk : W.heap[b]? = w.heap[b]?) : W.ownsMap P k R b n D := by
  obtain ⟨es, clock, hb, r⟩ := h
  exact ⟨es, clock, by rw [hk]; exact hb, r⟩
theorem map_tight {H : Type} {w : World} {P : Program} {k b n : Nat} {R : Value → Option (DataW H × List MemPlace)} {E : List (Lit × DataW H)} (h : w.ownsMap P k R b n (.map E)) : w.ownsMap P k R b E.length (.map E) := by
  obtain ⟨es, clock, hb, F, hs, hD⟩ := h
  refine ⟨es, clock, hb, F, ?_, hD⟩
  injection hD with hD
  rw [hD, length_sorted]; simp
section
variable {w W : World} {B g : Nat} {σ : DS} {S S2 : Nat → Prop}
theorem FileAt.heap {x : FE} (h : FileAt w B S x) (hk : ∀ k, S k → k < w.heap.size → W.heap[k]? = w.heap[k]?) : FileAt W B S x := by
  obtain ⟨h1, h2, h3, h4, h5, h6⟩ := h
  exact ⟨by rw [hk _ h4 (lt_of_block h1)]; exact h1, row_heap h2 (fun k e => hk k (h5 k e) (h2.lt k e).2), h3, h4, h5, h6⟩
theorem FileAt.mono {x : FE} (h : FileAt w B S x) (hs : ∀ k, k < w.heap.size → S k → S2 k) : FileAt w B S2 x := by
  obtain ⟨h1, h2, h3, h4, h5, h6⟩ := h
  exact ⟨h1, h2, h3, hs _ (lt_of_block h1) h4, fun k e => hs k (h2.lt k e).2 (h5 k e), h6⟩
theorem FailsAt.heap {A : Option Addr} {c : Nat} {l : List Int} (h : FailsAt w S B A c l) (hk : ∀ k, S k → k < w.heap.size → W.heap[k]? = w.heap[k]?) : FailsAt W S B A c l := by
  obtain ⟨h1, h2, h⟩ := h
  refine ⟨h1, h2, ?_⟩
  rcases h with h | ⟨fb, off, cs, fr, e, hS, hB, hh, hc⟩
  · exact .inl h
  · exact .inr ⟨fb, off, cs, fr, e, hS, hB, by rw [hk fb hS (lt_of_block hh)]; exact hh, hc⟩
theorem FailsAt.mono {A : Option Addr} {c : Nat} {l : List Int} (h : FailsAt w S B A c l) (hs : ∀ k, k < w.heap.size → S k → S2 k) : FailsAt w S2 B A c l := by
  obtain ⟨h1, h2, h⟩ := h
  refine ⟨h1, h2, ?_⟩
  rcases h with h | ⟨fb, off, cs, fr, e, hS, hB, hh, hc⟩
  · exact .inl h
  · exact .inr ⟨fb, off, cs, fr, e, hs fb (lt_of_block hh) hS, hB, hh, hc⟩
theorem Disk1.heap {L : List FE} {mb : Nat} {A : Option Addr} {c : Nat} (h : Disk1 w B g σ S L mb A c) (hk : ∀ k, S k → k < w.heap.size → W.heap[k]? = w.heap[k]?) : Disk1 W B g σ S L mb A c :=
  ⟨h.abs, by rw [hk g h.gS (lt_of_block h.top)]; exact h.top, map_heap h.own (hk mb h.mS h.own.lt), fun x hx => (h.file x hx).heap hk, h.apart, h.fails.heap hk, h.gB, h.gS, h.mB, h.mS, h.most⟩
theorem Disk1.mono {L : List FE} {mb : Nat} {A : Option Addr} {c : Nat} (h : Disk1 w B g σ S L mb A c) (hs : ∀ k, k < w.heap.size → S k → S2 k) : Disk1 w B g σ S2 L mb A c :=
  ⟨h.abs, h.top, h.own, fun x hx => (h.file x hx).mono hs, h.apart, h.fails.mono hs, h.gB, hs g (lt_of_block h.top) h.gS, h.mB, hs mb h.own.lt h.mS, h.most⟩
theorem IsDisk.heap (h : IsDisk w B g σ S) (hk : ∀ k, S k → k < w.heap.size → W.heap[k]? = w.heap[k]?) : IsDisk W B g σ S := by
  obtain ⟨L, mb, A, c, h⟩ := h
  exact ⟨L, mb, A, c, h.heap hk⟩
theorem IsDisk.mono (h : IsDisk w B g σ S) (hs : ∀ k, k < w.heap.size → S k → S2 k) : IsDisk w B g σ S2 := by
  obtain ⟨L, mb, A, c, h⟩ := h
  exact ⟨L, mb, A, c, h.mono hs⟩
theorem IsDisk.kept (h : IsDisk w B g σ S) (hf : Fr w W S2) (hd : ∀ k, S k → ¬ S2 k) : IsDisk W B g σ S := h.heap (fun k hS hk => hf.block k hk (hd k hS))
theorem IsDisk.below (h : IsDisk w B g σ S) (hb : Below w.heap.size w W) : IsDisk W B g σ S := h.heap (fun k _ hk => hb.block k hk)
end
end Go.Proofs.Ytgeklapphkgdkaa.Dsk
