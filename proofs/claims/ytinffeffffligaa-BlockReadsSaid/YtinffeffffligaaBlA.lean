import Derived.Test.YtinffeffffligaaBasF
import Derived.Deep.RegionWith
import Derived.Handy
set_option linter.unusedVariables false
set_option linter.unusedSimpArgs false
namespace Go.Proofs.Ytinffeffffligaa.Bas
open Go.RowKit Go.Maps

theorem Try.infoU8 : (Try.prog.info? 5).map (fun i => (i.zero, i.size, i.bytes)) = some (some (.int .u8 0), 1, 1) := by kernel_rfl
/-- What a copy of bytes leaves: a slice that reads as they do, in new memory. -/
def CloneP (xs : List Int) (w : World) (en : Ending) (w' : World) : Prop :=
  ∃ A' c', en = .returned (.slice A' xs.length c') ∧ Rd w' .u8 A' xs.length c' xs ∧ (∀ ad, A' = some ad → w.heap.size ≤ ad.block) ∧ Below w.heap.size w w'
set_option maxHeartbeats 1000000 in
set_option maxRecDepth 100000 in
theorem bytes_clone {w : World} {A : Option Addr} {n c : Nat} {xs : List Int} (h : Rd w .u8 A n c xs) : Calls Try.prog 43 #[.slice A n c] w (CloneP xs w) := by
  have hl := h.len
  have hm := h.max
  cases A with
  | none =>
    obtain ⟨rfl, rfl⟩ := h.nil rfl
    have hx : xs = [] := List.eq_nil_of_length_eq_zero h.len
    subst hx
    have he : ∀ w, (binOp .eql 25 (.slice none 0 0) (.slice none 0 0)).run Try.prog w = .ok (.bool true) w := fun w => Lib.run_eql_slice_nil w 25 5 none 0 0 0 0 Try.underlying25
    go_enter Try.func43, Try.ntmps43
    go_wp2
    go_ret
    exact ⟨none, 0, rfl, Rd.nil0 _ _, (fun ad e => by cases e), Below.refl _ _⟩
  | some ad =>
    have he : ∀ w, (binOp .eql 25 (.slice (some ad) n c) (.slice none 0 0)).run Try.prog w = .ok (.bool false) w := fun w => Lib.run_eql_slice_nil w 25 5 (some ad) n c 0 0 Try.underlying25
    have H := Kp.mk h
    clear h
    go_enter Try.func43, Try.ntmps43
    go_wp2_with (at_builtin; refine wpList_append_rd _ rfl (.tmp 5) (.tmp 6) 25 5 .u8 1 w.heap.size rfl Try.underlying25 Try.infoU8 (by decide) (.slice (some ⟨w.heap.size, 0, none⟩) 0 0) 0 n c [] xs (some ad) rfl rfl (own_empty w 5) (H.out.below (alloc_below w _)) (by omega) (by simp) ?_; intro A' c' w2 hown2 hg2 hat2; simp only [Nat.zero_add, List.nil_append] at hown2 hat2 ⊢; have Hown2 := Kp.mk hown2; have Hg2 := Kp.mk hg2; clear hown2 hg2 hat2)
    go_ret
    exact ⟨A', c', by rw [hl]; rfl, by rw [hl]; exact (own_rd Hown2.out hm).1, (fun ad e => ((own_rd Hown2.out hm).2 ad e).2.1), (alloc_below w _).grown Hg2.out (by simp) (fun k e => by simp [Value.ownBlock] at e; omega)⟩
/-! ### An entry -/
structure En where
  k : Ky
  val : List Int
/-- How an entry's four cells read. -/
def EnC (w : World) (vs : Array Value) (e : En) : Prop := ∃ A n c A' n' c', vs = #[.slice A n c, .int .u64 e.k.seq, .int .i64 e.k.kind, .slice A' n' c'] ∧ Rd w .u8 A n c e.k.key ∧ Byt e.k.key ∧ Rd w .u8 A' n' c' e.val ∧ Byt e.val
theorem EnC.below {w W : World} {vs : Array Value} {e : En} (h : EnC w vs e) (hb : Below w.heap.size w W) : EnC W vs e := by
  obtain ⟨A, n, c, A', n', c', hv, h1, h2, h3, h4⟩ := h
  exact ⟨A, n, c, A', n', c', hv, h1.below hb, h2, h3.below hb, h4⟩
/-- The slices in a value's cells lie in blocks from B on. -/
def NewV (B : Nat) (vs : Array Value) : Prop := ∀ A n c, Value.slice (some A) n c ∈ vs.toList → B ≤ A.block
def enD : En := ⟨⟨[], 0, 0⟩, []⟩
/-- A slice of entries that is read. -/
structure Es (w : World) (A : Option Addr) (n c : Nat) (es : List En) : Prop where
  len : es.length = n
  max : n ≤ 1000000
  nil : A = none → n = 0 ∧ c = 0
  cell : 0 < n → ∃ b off, A = some ⟨b, off, none⟩ ∧ ∀ i, i < n → ∃ vs, EnC w vs (es.getD i enD) ∧ ∀ j v, vs[j]? = some v → w.cell? ⟨b, off + i * 4 + j, none⟩ = some v
theorem Es.below {w W : World} {A : Option Addr} {n c : Nat} {es : List En} (h : Es w A n c es) (hb : Below w.heap.size w W) : Es W A n c es :=
  ⟨h.len, h.max, h.nil, fun hn => by
    obtain ⟨b, off, e, hc⟩ := h.cell hn
    refine ⟨b, off, e, fun i hi => ?_⟩
    obtain ⟨vs, h1, h2⟩ := hc i hi
    exact ⟨vs, h1.below hb, fun j v hv => cell_kept hb (h2 j v hv)⟩⟩
def risesFrom : List En → Bool
  | [] => true
  | [_] => true
  | a :: b :: r => decide (keyCmp a.k b.k < 0) && risesFrom (b :: r)
theorem rises_step {es : List En} {q : Nat} (h : q + 1 < es.length) : risesFrom (es.drop q) = (decide (keyCmp (es.getD q enD).k (es.getD (q + 1) enD).k < 0) && risesFrom (es.drop (q + 1))) := by
  have h1 : es.drop q = es.getD q enD :: es.drop (q + 1) := by rw [List.drop_eq_getElem_cons (by omega)]; simp [List.getD, show q < es.length by omega]
  have h2 : es.drop (q + 1) = es.getD (q + 1) enD :: es.drop (q + 2) := by rw [List.drop_eq_getElem_cons (by omega)]; simp [List.getD, h]
  rw [h1, h2]; rfl
theorem rises_end {es : List En} {q : Nat} (h : es.length ≤ q + 1) : risesFrom (es.drop q) = true := by
  have : (es.drop q).length ≤ 1 := by rw [List.length_drop]; omega
  match hd : es.drop q, this with
  | [], _ => rfl
  | [_], _ => rfl
end Go.Proofs.Ytinffeffffligaa.Bas
