import Derived.Test.YtgeklapphkgdkaaDskL
import Derived.Test.YtgeklapphkgdkaaDskQ
import Derived.Test.YtgeklapphkgdkaaDskW
import Derived.Deep.RegionHeld3
import Derived.Deep.RegionLaw
import Derived.Deep.RegionWith
set_option linter.unusedVariables false
set_option linter.unusedSimpArgs false
namespace Go.Proofs.Ytgeklapphkgdkaa.Dsk
open Go.RowKit Go.Maps

/-! ### The reference's disk: how it is told -/
theorem cell_kept {w W : World} {a : Addr} {v : Value} (hb : Below w.heap.size w W) (h : w.cell? a = some v) : W.cell? a = some v := by
  have := hb.block a.block (World.block_lt_of_cell? w a h)
  simpa [World.cell?, this] using h
structure Blw (w : World) where
  v : World
  h : Below w.heap.size w v
instance (w : World) : Inhabited (Blw w) := ⟨⟨w, Below.refl _ _⟩⟩
theorem wp_region_below {P : Program} {id : Nat} {Q : Exit → Act → World → Prop} {a : Act} {w : World} {l : List Oper} (hm : P.follows .mixedOrders = true) (hB : Region.lexB .any l.toArray = true)
    (h : wpQuiet P l.toArray (fun w' => ∃ p : Blw w, w' = p.v) (fun a' => ∀ w', (∃ p : Blw w, w' = p.v) → Q .normal a' w') l a) : (Code.region id l.toArray true).wp P Q a w :=
  wp_region_quiet (C := fun w' => ∃ p : Blw w, w' = p.v) hm hB ⟨⟨w.drew, (Below.refl _ _).drew⟩, rfl⟩ (by simpa using h)
theorem calls_blw {P : Program} {f : FuncId} {args : Array Value} {w : World} {p : Blw w} {v : Value} (h : Calls P f args p.v fun e w' => e = .returned v ∧ Below p.v.heap.size p.v w') :
    Calls P f args p.v fun e w'' => e = .returned v ∧ ∃ q : Blw w, w'' = q.v :=
  h.mono fun _ w' ⟨he, hb⟩ => ⟨he, ⟨w', p.h.trans (hb.mono p.h.size)⟩, rfl⟩
theorem blw_cell {w : World} {a : Addr} {v : Value} (h : w.cell? a = some v) (p : Blw w) : p.v.cell? a = some v := cell_kept p.h h
theorem rd_from {w : World} {k : IntKind} {A : Option Addr} {n c a : Nat} {xs : List Int} (h : Rd w k A n c xs) (hc : n ≤ c) (ha : a ≤ n) : ∃ A', (if c = a then A else Option.map (fun x => x.add a) A) = A' ∧ Rd w k A' (n - a) (c - a) (xs.drop a) ∧ ∀ ad, A' = some ad → ∃ ad0, A = some ad0 ∧ ad0.block = ad.block := by
  have hl := h.len
  by_cases hca : c = a
  · rw [if_pos hca]
    refine ⟨A, rfl, ⟨by rw [List.length_drop]; omega, by have := h.max; omega, fun e => by have := h.nil e; omega, fun hp => by omega⟩, fun ad e => ⟨ad, e, rfl⟩⟩
  · rw [if_neg hca]
    refine ⟨_, rfl, ⟨by rw [List.length_drop]; omega, by have := h.max; omega, fun e => ?_, fun hp => ?_⟩, fun ad e => ?_⟩
    · cases A with
      | none => have := h.nil rfl; omega
      | some x => simp at e
    · obtain ⟨ad, rfl, hcell⟩ := h.cell (by omega)
      refine ⟨ad.add a, rfl, fun j hj => ?_⟩
      have h1 := hcell (a + j) (by omega)
      have e : (ad.add a).add j = ad.add (a + j) := Go.Deep.add_add ad a j
      rw [e, h1]
      simp [List.getD, List.getElem?_drop]
    · cases A with
      | none => simp at e
      | some x =>
        simp at e
        subst e
        exact ⟨x, rfl, by unfold Addr.add; split <;> rfl⟩
/-- A file of the reference: its three cells. -/
abbrev PF := Array Value × (List UInt8 × List Int × Nat)
def flat3 (ps : List PF) : List Value := (ps.map fun p => p.1.toList).flatten
structure FileC (w : World) (vs : Array Value) (f : List UInt8 × List Int × Nat) : Prop where
  out : ∃ (nm : ByteArray) (A : Option Addr) (n c : Nat), vs = #[.string nm, .slice A n c, .int .i64 (f.2.2 : Nat)] ∧ nm.data.toList = f.1 ∧ Rd w .u8 A n c f.2.1 ∧ n ≤ c ∧ n ≤ 16777216 ∧ f.2.2 ≤ n ∧ nm.size ≤ 100000
theorem FileC.size {w : World} {vs : Array Value} {f : List UInt8 × List Int × Nat} (h : FileC w vs f) : vs.size = 3 := by
  obtain ⟨nm, A, n, c, rfl, _⟩ := h.out
  rfl
theorem FileC.kept {w W : World} {S : Nat → Prop} {vs : Array Value} {f : List UInt8 × List Int × Nat} (h : FileC w vs f) (hf : Fr w W S) (ha : ∀ A n c, Value.slice (some A) n c ∈ vs.toList → 0 < n → ¬ S A.block) : FileC W vs f := by
  obtain ⟨nm, A, n, c, rfl, h1, h2, h3⟩ := h.out
  exact ⟨nm, A, n, c, rfl, h1, h2.kept hf (fun ad e hn => by subst e; exact ha ad n c (by simp) hn), h3⟩
def Srt (fs : AF) : Prop := fs.Pairwise fun x y => bytesBefore x.1 y.1 = true
structure RD (w : World) (B g : Nat) (σ : DS) (S : Nat → Prop) (room : Int) (v : Value) (A : Option Addr) (c : Nat) (ps : List PF) : Prop where
  abs : ps.map (fun p : PF => p.2) = σ.files
  top : w.heap[g]? = some (.cells #[.int .i64 room, v, .slice A σ.fails.length c, .int .i64 σ.failed] 75 (0, 0))
  own : w.ownsRow B 88 3 v ps.length (flat3 ps)
  file : ∀ p ∈ ps, FileC w p.1 p.2
  far : ∀ p ∈ ps, ∀ A n c, Value.slice (some A) n c ∈ p.1.toList → 0 < n → S A.block ∧ A.block ≠ g ∧ v.ownBlock ≠ some A.block
  fails : Rd w .i64 A σ.fails.length c σ.fails
  fcap : σ.fails.length ≤ c
  ffar : ∀ ad, A = some ad → 0 < σ.fails.length → S ad.block ∧ ad.block ≠ g ∧ v.ownBlock ≠ some ad.block
  gB : B ≤ g
  gS : S g
  vS : ∀ q, v.ownBlock = some q → S q ∧ q ≠ g
  room : σ.room = max 0 room
  srt : Srt σ.files
  most : ps.length ≤ 1000
def IsR (w : World) (B g : Nat) (σ : DS) (S : Nat → Prop) : Prop := ∃ room v A c ps, RD w B g σ S room v A c ps
theorem rrow_heap {w W : World} {B e n size : Nat} {v : Value} {xs : List Value} (h : w.ownsRow B e size v n xs) (hk : ∀ k, v.ownBlock = some k → W.heap[k]? = w.heap[k]?) : W.ownsRow B e size v n xs := by
  obtain ⟨h1, h2⟩ := h
  refine ⟨h1, ?_⟩
  rcases h2 with h2 | ⟨g, cap, cur, hv, hg, hh, r⟩
  · exact .inl h2
  · exact .inr ⟨g, cap, cur, hv, hg, by rw [hk g (by rw [hv]; rfl)]; exact hh, r⟩
theorem rrow_lt {w : World} {B e n size : Nat} {v : Value} {xs : List Value} (h : w.ownsRow B e size v n xs) : ∀ k, v.ownBlock = some k → k < w.heap.size := by
  intro k hk
  rcases h.2 with ⟨e1, _⟩ | ⟨g, cap, cur, hv, hg, hh, r⟩
  · rw [e1] at hk; cases hk
  · rw [hv] at hk
    have : g = k := by injection hk
    subst this
    exact lt_of_block hh
theorem RD.kept {w W : World} {B g : Nat} {σ : DS} {S S2 : Nat → Prop} {room : Int} {v : Value} {A : Option Addr} {c : Nat} {ps : List PF} (h : RD w B g σ S room v A c ps) (hf : Fr w W S2) (hd : ∀ k, S k → ¬ S2 k) : RD W B g σ S room v A c ps :=
  ⟨h.abs, (hf.block g (lt_of_block h.top) (hd g h.gS)).trans h.top, rrow_heap h.own (fun k hk => hf.block k (rrow_lt h.own k hk) (hd k (h.vS k hk).1)), fun p hp => (h.file p hp).kept hf (fun A n c hm hn => hd _ (h.far p hp A n c hm hn).1), h.far,
    h.fails.kept hf (fun ad e hn => hd _ (h.ffar ad e hn).1), h.fcap, h.ffar, h.gB, h.gS, h.vS, h.room, h.srt, h.most⟩
theorem RD.mono {w : World} {B g : Nat} {σ : DS} {S S2 : Nat → Prop} {room : Int} {v : Value} {A : Option Addr} {c : Nat} {ps : List PF} (h : RD w B g σ S room v A c ps) (hs : ∀ k, k < w.heap.size → S k → S2 k) : RD w B g σ S2 room v A c ps :=
  ⟨h.abs, h.top, h.own, h.file, fun p hp A n c hm hn => by
      have h1 := h.far p hp A n c hm hn
      refine ⟨hs _ ?_ h1.1, h1.2⟩
      obtain ⟨nm, A', n', c', e, _, hr, _⟩ := (h.file p hp).out
      rw [e] at hm
      simp at hm
      obtain ⟨e1, e2, _⟩ := hm
      exact hr.lt A e1.symm (by omega),
    h.fails, h.fcap, fun ad e hn => ⟨hs _ (h.fails.lt ad e hn) (h.ffar ad e hn).1, (h.ffar ad e hn).2⟩, h.gB, hs g (lt_of_block h.top) h.gS, fun q hq => ⟨hs q (rrow_lt h.own q hq) (h.vS q hq).1, (h.vS q hq).2⟩, h.room, h.srt, h.most⟩
theorem RD.below {w W : World} {B g : Nat} {σ : DS} {S : Nat → Prop} {room : Int} {v : Value} {A : Option Addr} {c : Nat} {ps : List PF} (h : RD w B g σ S room v A c ps) (hb : Below w.heap.size w W) : RD W B g σ S room v A c ps :=
  h.kept (S2 := fun _ => False) (Fr.of_below hb) (fun _ _ h => h)
/-- What every call of the reference's disk leaves. -/
def PostR (B g : Nat) (S : Nat → Prop) (σ' : DS) (w w' : World) : Prop := IsR w' B g σ' (fun k => S k ∨ w.heap.size ≤ k) ∧ Fr w w' S
def DS.down (σ : DS) : Bool × DS :=
  match σ.fails with
  | [] => (false, σ)
  | x :: r => if x = 0 then (false, { σ with fails := r }) else (true, { σ with fails := r, failed := wrap64 (σ.failed + 1) })
theorem begin_down (σ : DS) (ok : Bool) : σ.begin ok = (if σ.down.1 then 11 else if ok then 0 else 6, σ.down.2) := by
  unfold DS.begin DS.down
  cases σ.fails with
  | nil => rfl
  | cons x r =>
    by_cases h : x = 0
    · simp [h]
    · simp [h]
theorem down_files (σ : DS) : σ.down.2.files = σ.files ∧ σ.down.2.room = σ.room := by
  unfold DS.down
  cases σ.fails with
  | nil => exact ⟨rfl, rfl⟩
  | cons x r =>
    by_cases h : x = 0
    · simp [h]
    · simp [h]
end Go.Proofs.Ytgeklapphkgdkaa.Dsk
