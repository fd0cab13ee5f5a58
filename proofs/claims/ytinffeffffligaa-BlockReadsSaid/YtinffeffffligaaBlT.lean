import Derived.Test.YtinffeffffligaaBlJ
import Derived.Test.YtinffeffffligaaBlP
import Derived.Test.YtinffeffffligaaBlQ
import Derived.Test.YtinffeffffligaaBlS
set_option linter.unusedVariables false
set_option linter.unusedSimpArgs false
namespace Go.Proofs.Ytinffeffffligaa.Bas
open Go.RowKit Go.Maps

/-! ### New rows, whatever their slices' numbers -/
def NewP (zs : List Int) (w : World) (e : Ending) (w' : World) : Prop :=
  ∃ A' n' c', e = .returned (.slice A' n' c') ∧ Nu .u8 5 w.heap.size w' (.slice A' n' c') zs ∧ Below w.heap.size w w'
theorem putN {w : World} {A : Option Addr} {n c : Nat} {xs : List Int} (h : Rd w .u8 A n c xs) {x : Nat} (hx : x < 18446744073709551616) (hn : n ≤ 1000000000) : Calls Try.prog 27 #[.slice A n c, .int .u64 (x : Int)] w (NewP (xs ++ varB x) w) :=
  (var_put h hx hn).mono fun e w' ⟨A', c', he, h1, h2⟩ => ⟨A', _, c', he, h1, h2⟩
theorem ref_putN {w : World} {A : Option Addr} {n c : Nat} {xs : List Int} (h : Rd w .u8 A n c xs) {x : Nat} (hx : x < 18446744073709551616) (hn : n ≤ 1000000000) : Calls Try.prog 49 #[.slice A n c, .int .u64 (x : Int)] w (NewP (xs ++ varB x) w) :=
  (ref_put h hx hn).mono fun e w' ⟨A', c', he, h1, h2⟩ => ⟨A', _, c', he, h1, h2⟩
theorem ref_lowN {w : World} {A : Option Addr} {n c : Nat} {xs : List Int} (h : Rd w .u8 A n c xs) {x : Nat} (hx : x < 18446744073709551616) {m : Nat} (hm : m ≤ 8) (hn : n ≤ 1000000000) :
    Calls Try.prog 47 #[.slice A n c, .int .u64 (x : Int), .int .i64 (m : Int)] w (NewP (xs ++ lowB x m) w) :=
  (ref_low h hx hm hn).mono fun e w' ⟨A', c', he, h1, h2⟩ => ⟨A', _, c', he, h1, h2⟩
theorem key_bytesN {w : World} {v : Value} {k : Ky} (h : KyV w v k) (hr : RightK k) (h0 : 0 ≤ k.seq) : Calls Try.prog 25 #[v] w (NewP (kb k) w) :=
  (key_bytes h hr h0).mono fun e w' ⟨A', c', he, h1, h2⟩ => ⟨A', _, c', he, h1, h2⟩
theorem ref_keybytesN {w : World} {v : Value} {k : Ky} (h : KyV w v k) (hr : RightK k) (h0 : 0 ≤ k.seq) : Calls Try.prog 46 #[v] w (NewP (kb k) w) :=
  (ref_keybytes h hr h0).mono fun e w' ⟨A', c', he, h1, h2⟩ => ⟨A', _, c', he, h1, h2⟩
theorem ref_maskedN {w : World} {A : Option Addr} {n c : Nat} {xs : List Int} (h : Rd w .u8 A n c xs) (hb : Byt xs) : Calls Try.prog 36 #[.slice A n c] w (NewP (lowB (maskN (crcN xs)) 4) w) :=
  (ref_masked h hb).mono fun e w' ⟨A', c', he, h1, h2⟩ => ⟨A', _, c', he, h1, h2⟩
theorem Nu.cap {k : IntKind} {e : TypeId} {B : Nat} {w : World} {A : Option Addr} {n c : Nat} {xs : List Int} (h : Nu k e B w (.slice A n c) xs) : n ≤ c := by
  rcases h.own.2 with ⟨e1, _⟩ | ⟨g, cap, cur, e1, _, _, h3, _⟩
  · injection e1 with _ e2 e3
    omega
  · injection e1 with _ e2 e3
    omega
/-- append(v, ys...), as one step of a region that draws. -/
theorem step_append_nu {P : Program} {w : World} {ops : Array Oper} {o : Oper} {a : Act} {K : Act → World → Prop} {Q : Exit → Act → World → Prop} {E : Prop} (hgd : o.guard = none) (s x : Operand) (t e : TypeId) (k : IntKind) (bytes B : Nat)
    (ho : o.op = .call { callee := .builtin .append, args := #[s, x], argTypes := #[t, t] })
    (ht : P.underlying t = some (.slice e)) (hinfo : (P.info? e).map (fun i => (i.zero, i.size, i.bytes)) = some (some (.int k 0), 1, bytes)) (hb0 : 0 < bytes)
    (v : Value) (m c : Nat) (xs ys : List Int) (A : Option Addr) (hs : a.eval s = v) (hx : a.eval x = .slice A m c) (hown : Nu k e B w v xs) (hr : Rd w k A m c ys)
    (hl : (xs.length + m) * bytes ≤ 140737488355328) (hbase : B ≤ w.heap.size)
    (h : ∀ A' n' c' w', Nu k e B w' (.slice A' n' c') (xs ++ ys) → Fr w w' (fun q => some q = v.ownBlock) → Below B w w' → K (a.put o.dst (.slice A' n' c')) w') :
    if Region.wanted o (yielded ops a.tmps) = true then Oper.wp P o a w K Q else E := by
  have hw : Region.wanted o (yielded ops a.tmps) = true := by simp [Region.wanted, hgd]
  rw [if_pos hw]
  obtain ⟨i0, hi, hz0, hz1, hz2⟩ := info_parts hinfo
  have hlen : xs.length + m ≤ 140737488355328 := Nat.le_trans (Nat.le_mul_of_pos_right _ hb0) hl
  cases A with
  | none =>
    obtain ⟨rfl, rfl⟩ := hr.nil rfl
    have hy : ys = [] := List.eq_nil_of_length_eq_zero hr.len
    subst hy
    have hrun := run_append_owned_none (P := P) (w := w) B t o.type e i0 1 ht hi v xs.length (nums k xs) hown.own
    unfold Oper.wp
    simp [execOp, ho, resolve, invoke, builtin, hs, hx, hrun, Result.andThen]
    obtain ⟨A', c', rfl⟩ := hown.slice
    exact h A' _ c' w (by simpa using hown) (Fr.refl _ _) (Below.refl _ _)
  | some ad =>
    have hcell : ∀ j u, (nums k ys)[j]? = some u → w.cell? (ad.add j) = some u := by
      intro j u hu
      have hj : j < ys.length := by
        have := (List.getElem?_eq_some_iff.1 hu).1
        simpa [nums] using this
      obtain ⟨ad', e', hc⟩ := hr.cell (by have := hr.len; omega)
      cases e'
      rw [hc j (by have := hr.len; omega)]
      rw [← hu]
      simp [nums, List.getD, hj]
    obtain ⟨v', w', hrun, h2, h3, h4, h5⟩ := run_append_own_at (P := P) w B t o.type e i0 (.int k 0) 1 bytes ht hi hz0 hz1 hz2 rfl (by omega) v xs.length (nums k xs) hown.own ad m c (nums k ys) (by simp [nums, hr.len]) hcell (ints_oneCell k ys) (by unfold maxLen; omega) hl hbase
    unfold Oper.wp execOp
    simp only [ho, resolve, invoke, builtin, Sem.run_bind, Sem.run_pure, Result.andThen_ok, List.map_toArray, List.map_cons, List.map_nil, hs, hx, hrun]
    have hN : Nu k e B w' v' (xs ++ ys) := ⟨by rw [List.length_append, hr.len]; simpa [nums] using h2⟩
    obtain ⟨A', c', rfl⟩ := hN.slice
    exact h A' _ c' w' hN (Fr.grown (S := fun q => some q = v.ownBlock) (Fr.refl w _) h3 (fun q hq => .inl hq.symm)) ((Below.refl _ _).grown h3 hbase hown.base)
/-! ### A block of entries, in plain words -/
def encE (last k : List Int) (c : Nat) (v : List Int) : List Int := varB c ++ varB (k.length - c) ++ varB v.length ++ k.drop c ++ v
def lastB (es : List En) (i : Nat) : List Int := if i = 0 then [] else kb (es.getD (i - 1) enD).k
def comB (s : Nat) (es : List En) (i : Nat) : Nat := if i % s = 0 then 0 else comN (lastB es i) (kb (es.getD i enD).k)
def outB (s : Nat) (es : List En) : Nat → List Int
  | 0 => []
  | i + 1 => outB s es i ++ encE (lastB es i) (kb (es.getD i enD).k) (comB s es i) (es.getD i enD).val
def endsB (s : Nat) (es : List En) : Nat → List Nat
  | 0 => []
  | i + 1 => if i % s = 0 then endsB s es i ++ [(outB s es i).length] else endsB s es i
def low4s (l : List Nat) : List Int := l.flatMap (fun x => lowB x 4)
def bodyB (s : Nat) (es : List En) : List Int := outB s es es.length ++ low4s (endsB s es es.length) ++ lowB (endsB s es es.length).length 4
def sumB (b : List Int) : List Int := lowB (maskN (crcN b)) 4
def buildB (s : Nat) (es : List En) : List Int := bodyB s es ++ sumB (bodyB s es)
end Go.Proofs.Ytinffeffffligaa.Bas
