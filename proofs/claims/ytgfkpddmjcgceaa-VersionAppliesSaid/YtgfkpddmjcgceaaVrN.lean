import Derived.Test.YtgfkpddmjcgceaaVrG
import Derived.Test.YtgfkpddmjcgceaaVrJ
import Derived.Test.YtgfkpddmjcgceaaVrL
import Derived.Test.YtgfkpddmjcgceaaVrM
set_option linter.unusedVariables false
set_option linter.unusedSimpArgs false
namespace Go.Proofs.Ytgfkpddmjcgceaa.Kx
open Go.RowKit Go.Maps Go.Proofs.YtgfkpddmjcgceaaW.PrintWords

attribute [local go_sem] max2_int min2_int max_two min_two

/-! ### What an edit makes of a version -/
def allIn (rs : List Rn) (drop : List Int) : Prop := ∀ i, i < drop.length → inF rs (drop.getD i 0)
def twice (rs add : List Rn) (drop : List Int) : Prop := ∃ i, i < add.length ∧ inF rs (add.getD i zRn).file ∧ (add.getD i zRn).file ∉ drop
def IsAt (rs : List Rn) (drop : List Int) (a : Nat) : Prop := (a = 0 ∧ ∀ j, j < rs.length → (rs.getD j zRn).file ∉ drop) ∨ (a < rs.length ∧ (rs.getD a zRn).file ∈ drop ∧ ∀ i, i < a → (rs.getD i zRn).file ∉ drop)
def RowAt (rs : List Rn) (drop : List Int) (a : Nat) : Prop := a + drop.length ≤ rs.length ∧ ∀ i, a ≤ i → i < a + drop.length → (rs.getD i zRn).file ∈ drop
def outL (rs add : List Rn) (drop : List Int) (a : Nat) : List Rn := rs.take a ++ add ++ rs.drop (a + drop.length)
def outS (sq esq : Int) : Int := if 0 < esq then esq else sq
def GoodAt (rs : List Rn) (nx lg sq : Int) (add : List Rn) (drop : List Int) (enx elg esq : Int) (a : Nat) : Prop :=
  laterB nx enx = true ∧ laterB lg elg = true ∧ sq ≤ outS sq esq ∧ VOk (outL rs add drop a) (laterI nx enx) (laterI lg elg) (outS sq esq)
/-- The outcome: the error, and what comes out. -/
def ApplyR (rs : List Rn) (nx lg sq : Int) (add : List Rn) (drop : List Int) (enx elg esq : Int) (x : Int) (l : List Rn) (a b c : Int) : Prop :=
  (x = 1 ∧ ¬ (VOk rs nx lg sq ∧ EOk add drop enx elg esq) ∧ l = [] ∧ a = 0 ∧ b = 0 ∧ c = 0) ∨ ((VOk rs nx lg sq ∧ EOk add drop enx elg esq) ∧
  ((x = 8 ∧ ¬ allIn rs drop ∧ l = [] ∧ a = 0 ∧ b = 0 ∧ c = 0) ∨ (allIn rs drop ∧
  ((x = 9 ∧ twice rs add drop ∧ l = [] ∧ a = 0 ∧ b = 0 ∧ c = 0) ∨ (¬ twice rs add drop ∧
  ((x = 3 ∧ 1000 < (rs.length : Int) - drop.length + add.length ∧ l = [] ∧ a = 0 ∧ b = 0 ∧ c = 0) ∨ ((rs.length : Int) - drop.length + add.length ≤ 1000 ∧
  ∃ at', IsAt rs drop at' ∧
  ((x = 10 ∧ ¬ RowAt rs drop at' ∧ l = [] ∧ a = 0 ∧ b = 0 ∧ c = 0) ∨ (RowAt rs drop at' ∧
  ((x = 10 ∧ ¬ GoodAt rs nx lg sq add drop enx elg esq at' ∧ l = [] ∧ a = 0 ∧ b = 0 ∧ c = 0) ∨
   (x = 0 ∧ GoodAt rs nx lg sq add drop enx elg esq at' ∧ l = outL rs add drop at' ∧ a = laterI nx enx ∧ b = laterI lg elg ∧ c = outS sq esq)))))))))))
def ApplyQ (rs : List Rn) (nx lg sq : Int) (add : List Rn) (drop : List Int) (enx elg esq : Int) (w : World) (e : Ending) (w' : World) : Prop :=
  ∃ x l a b c v, e = .returned (.tuple #[.agg #[v, .int .i64 a, .int .i64 b, .int .u64 c], .int .i64 x]) ∧ ApplyR rs nx lg sq add drop enx elg esq x l a b c ∧ kRn.R 42 w' w.heap.size (fun _ => True) v l ∧ Below w.heap.size w w'
theorem at_of {rs : List Rn} {drop : List Int} {r : Int} (h : firstI (fun a : Rn => a.file ∈ drop) rs zRn r) : ∃ a : Nat, max 0 r = (a : Int) ∧ IsAt rs drop a ∧ a ≤ rs.length := by
  rcases h with ⟨rfl, h⟩ | ⟨j, rfl, h1, h2, h3⟩
  · exact ⟨0, rfl, .inl ⟨rfl, h⟩, Nat.zero_le _⟩
  · exact ⟨j, by omega, .inr ⟨h1, h2, h3⟩, by omega⟩

/-- What Apply's three variables in memory are. -/
structure Ap (w W : World) (V E Z : Array Value) : Prop where
  v : W.heap[w.heap.size]? = some (.cells V 27 (0, 0))
  e : W.heap[w.heap.size + 1]? = some (.cells E 31 (0, 0))
  z : W.heap[w.heap.size + 1 + 1]? = some (.cells Z 27 (0, 0))
  b : Below w.heap.size w W
theorem Ap.below {w W W2 : World} {V E Z : Array Value} (h : Ap w W V E Z) (hb : Below W.heap.size W W2) : Ap w W2 V E Z :=
  ⟨(hb.block _ (lt_of_block h.v)).trans h.v, (hb.block _ (lt_of_block h.e)).trans h.e, (hb.block _ (lt_of_block h.z)).trans h.z, below_then h.b h.b.size hb⟩
theorem Ap.made (w : World) (V E Z : Array Value) : Ap w (((w.alloc (.cells V 27)).alloc (.cells E 31)).alloc (.cells Z 27)) V E Z := by
  have e1 : (w.alloc (.cells V 27)).heap.size = w.heap.size + 1 := by simp
  have e2 : ((w.alloc (.cells V 27)).alloc (.cells E 31)).heap.size = w.heap.size + 1 + 1 := by simp
  refine ⟨blk_alloc (blk_alloc (blk_new w _) _) _, ?_, ?_, ((alloc_below w _).alloc (by simp) _).alloc (by simp; omega) _⟩
  · have := blk_alloc (blk_new (w.alloc (.cells V 27)) (.cells E 31)) (.cells Z 27)
    rwa [e1] at this
  · have := blk_new ((w.alloc (.cells V 27)).alloc (.cells E 31)) (.cells Z 27)
    rwa [e2] at this
/-- A whole value is laid into the result. -/
theorem Ap.put {w W : World} {V E : Array Value} {z0 z1 z2 z3 : Value} (h : Ap w W V E #[z0, z1, z2, z3]) (a b c d : Value) :
    ((((W.setCell ⟨w.heap.size + 1 + 1, 0, none⟩ a).setCell ⟨w.heap.size + 1 + 1, 1, none⟩ b).setCell ⟨w.heap.size + 1 + 1, 2, none⟩ c).setCell ⟨w.heap.size + 1 + 1, 3, none⟩ d).heap[w.heap.size + 1 + 1]? = some (.cells #[a, b, c, d] 27 (0, 0)) ∧
    Below w.heap.size w ((((W.setCell ⟨w.heap.size + 1 + 1, 0, none⟩ a).setCell ⟨w.heap.size + 1 + 1, 1, none⟩ b).setCell ⟨w.heap.size + 1 + 1, 2, none⟩ c).setCell ⟨w.heap.size + 1 + 1, 3, none⟩ d) := by
  have h1 := heap_setCell_same _ _ 0 _ _ a h.z
  have h2 := heap_setCell_same _ _ 1 _ _ b h1
  have h3 := heap_setCell_same _ _ 2 _ _ c h2
  have h4 := heap_setCell_same _ _ 3 _ _ d h3
  exact ⟨h4, (((h.b.setCell (by simp; omega) _).setCell (by simp; omega) _).setCell (by simp; omega) _).setCell (by simp; omega) _⟩

theorem laid4 {W : World} {g : Nat} {z0 z1 z2 z3 : Value} (h : W.heap[g]? = some (.cells #[z0, z1, z2, z3] 27 (0, 0))) (a b c d : Value) :
    ((((W.setCell ⟨g, 0, none⟩ a).setCell ⟨g, 1, none⟩ b).setCell ⟨g, 2, none⟩ c).setCell ⟨g, 3, none⟩ d).heap[g]? = some (.cells #[a, b, c, d] 27 (0, 0)) :=
  heap_setCell_same _ _ 3 _ _ d (heap_setCell_same _ _ 2 _ _ c (heap_setCell_same _ _ 1 _ _ b (heap_setCell_same _ _ 0 _ _ a h)))
theorem laid4_R {W : World} {g m B : Nat} {v : Value} {l : List Rn} (h : kRn.R 42 W B (fun k => m ≤ k) v l) (hg : g < m) (a b c d : Value) :
    kRn.R 42 ((((W.setCell ⟨g, 0, none⟩ a).setCell ⟨g, 1, none⟩ b).setCell ⟨g, 2, none⟩ c).setCell ⟨g, 3, none⟩ d) B (fun k => k ≠ g ∧ True) v l :=
  Kd.R_mono (Kd.R_far (p := ⟨g, 3, none⟩) (Kd.R_far (p := ⟨g, 2, none⟩) (Kd.R_far (p := ⟨g, 1, none⟩) (Kd.R_far (p := ⟨g, 0, none⟩) h (fun k hk => by show k ≠ g; omega) a) (fun k hk => by show k ≠ g; omega) b) (fun k hk => by show k ≠ g; omega) c) (fun k hk => by show k ≠ g; omega) d) (fun k hk => ⟨by omega, trivial⟩)
theorem Ap.far {w W : World} {V E Z : Array Value} (h : Ap w W V E Z) {g : Nat} (hg : w.heap.size + 1 + 1 < g) (j : Nat) (a : Value) : Ap w (W.setCell ⟨g, j, none⟩ a) V E Z :=
  ⟨(Below.heap_setCell W ⟨g, j, none⟩ a _ (by show _ ≠ g; omega)).trans h.v, (Below.heap_setCell W ⟨g, j, none⟩ a _ (by show _ ≠ g; omega)).trans h.e, (Below.heap_setCell W ⟨g, j, none⟩ a _ (by show _ ≠ g; omega)).trans h.z, h.b.setCell (by show _ ≤ g; omega) _⟩
theorem laid4_A {w W : World} {V E Z : Array Value} (h : Ap w W V E Z) {g : Nat} (hg : w.heap.size + 1 + 1 < g) (a b c d : Value) :
    Ap w ((((W.setCell ⟨g, 0, none⟩ a).setCell ⟨g, 1, none⟩ b).setCell ⟨g, 2, none⟩ c).setCell ⟨g, 3, none⟩ d) V E Z := (((h.far hg 0 a).far hg 1 b).far hg 2 c).far hg 3 d

theorem zb1 {w W : World} {s : Obj} {cs : Array Value} (hb : Below ((w.drew.alloc (.cells cs 27)).alloc s).heap.size ((w.drew.alloc (.cells cs 27)).alloc s) W) : W.heap[w.heap.size]? = some (.cells cs 27 (0, 0)) :=
  blk_below (blk_alloc (blk_new w.drew _) _) hb
theorem zb2 {w W : World} {s : Obj} {cs : Array Value} (hb : Below ((w.drew.alloc s).alloc (.cells cs 27)).heap.size ((w.drew.alloc s).alloc (.cells cs 27)) W) : W.heap[w.heap.size + 1]? = some (.cells cs 27 (0, 0)) := by
  have h := heap_newb hb
  rwa [show (w.drew.alloc s).heap.size = w.heap.size + 1 by simp] at h

theorem run_far {w W : World} {g B : Nat} {ok : Nat → Prop} {v : Value} {l : List Rn} {cs : Array Value} (h : kRn.R 42 W B ok v l) (hz : W.heap[g]? = some (.cells cs 27 (0, 0))) : kRn.R 42 W B (fun k => ok k ∧ k ≠ g) v l :=
  Kd.R_types h hz (by decide)
theorem put_R {W : World} {g B : Nat} {ok : Nat → Prop} {v : Value} {l : List Rn} {cs : Array Value} (h : kRn.R 42 W B ok v l) (hz : W.heap[g]? = some (.cells cs 27 (0, 0))) (a b c d : Value) :
    kRn.R 42 ((((W.setCell ⟨g, 0, none⟩ a).setCell ⟨g, 1, none⟩ b).setCell ⟨g, 2, none⟩ c).setCell ⟨g, 3, none⟩ d) B (fun _ => True) v l :=
  Kd.R_mono (Kd.R_far (p := ⟨g, 3, none⟩) (Kd.R_far (p := ⟨g, 2, none⟩) (Kd.R_far (p := ⟨g, 1, none⟩) (Kd.R_far (p := ⟨g, 0, none⟩) (run_far (w := W) h hz) (fun k hk => hk.2) a) (fun k hk => hk.2) b) (fun k hk => hk.2) c) (fun k hk => hk.2) d) (fun _ _ => trivial)

set_option maxHeartbeats 8000000 in
set_option maxRecDepth 100000 in
theorem version_apply {w : World} {A A1 A2 : Option Addr} {c c1 c2 : Nat} {rs add : List Rn} {drop : List Int} (nx lg sq enx elg esq : Int) (h : kRn.C w A rs.length rs) (hc : rs.length ≤ c) (h1 : kRn.C w A1 add.length add) (h2 : (Kd.int .i64).C w A2 drop.length drop) (hsq : 0 ≤ sq) (hesq : 0 ≤ esq) :
    Calls Try.prog 10 #[.agg #[.slice A rs.length c, .int .i64 nx, .int .i64 lg, .int .u64 sq], .agg #[.slice A1 add.length c1, .slice A2 drop.length c2, .int .i64 enx, .int .i64 elg, .int .u64 esq]] w (ApplyQ rs nx lg sq add drop enx elg esq w) := by
  obtain ⟨n, hn⟩ : ∃ n, n = rs.length := ⟨_, rfl⟩
  obtain ⟨n1, hn1⟩ : ∃ n, n = add.length := ⟨_, rfl⟩
  obtain ⟨n2, hn2⟩ : ∃ n, n = drop.length := ⟨_, rfl⟩
  have H := Kp.mk h
  have H1 := Kp.mk h1
  have H2 := Kp.mk h2
  rw [← hn] at hc ⊢
  rw [← hn1, ← hn2]
  have Hn := Kp.mk hn
  have Hn1 := Kp.mk hn1
  have Hn2 := Kp.mk hn2
  have HA0 := Kp.mk (Ap.made w #[.slice A n c, .int .i64 nx, .int .i64 lg, .int .u64 sq] #[.slice A1 n1 c1, .slice A2 n2 c2, .int .i64 enx, .int .i64 elg, .int .u64 esq] #[.slice none 0 0, .int .i64 0, .int .i64 0, .int .u64 0])
  clear h h1 h2 hn hn1 hn2
  go_enter Try.func10, Try.ntmps10
  go_wp2_with fail
  have hcc := version_right (c := c) nx lg sq (Kd.C_below H.out HA0.out.b) hsq
  rw [← Hn.out] at hcc
  refine hcc.mono ?_
  clear hcc
  rintro e w1 ⟨b1, rfl, hb1, hB1⟩
  have HA1 := Kp.mk (HA0.out.below hB1)
  have HV := Kp.mk hb1
  clear hb1 hB1 HA0
  have z0 := cells_top HA1.out.z 0 _ rfl
  have z1 := cells_top HA1.out.z 1 _ rfl
  have z2 := cells_top HA1.out.z 2 _ rfl
  have z3 := cells_top HA1.out.z 3 _ rfl
  have zf0 := free_top HA1.out.z 0
  have zf1 := free_top HA1.out.z 1
  have zf2 := free_top HA1.out.z 2
  have zf3 := free_top HA1.out.z 3
  cases b1 with
  | false =>
    have hv : Kp (ApplyR rs nx lg sq add drop enx elg esq 1 [] 0 0 0) := ⟨.inl ⟨rfl, (fun hh => by have := HV.out.2 hh.1; cases this), rfl, rfl, rfl, rfl⟩⟩
    have hP := Kp.mk (HA1.out.put (.slice none 0 0) (.int .i64 0) (.int .i64 0) (.int .u64 0))
    go_wp2_with fail
    refine bodyPost_ret (results_ct rfl _ _ (w.heap.size + 1 + 1) _ _ _ _ rfl hP.out.1 Try.underlying27 rfl (by kernel_rfl)) rfl ?_
    exact ⟨1, [], 0, 0, 0, _, rfl, hv.out, Kd.R_nil _ _ _ _ _, hP.out.2⟩
  | true =>
    have HVt := Kp.mk (HV.out.1 rfl)
    clear HV z0 z1 z2 z3 zf0 zf1 zf2 zf3
    have e0 := cells_top HA1.out.e 0 _ rfl
    have e1 := cells_top HA1.out.e 1 _ rfl
    have e2 := cells_top HA1.out.e 2 _ rfl
    have e3 := cells_top HA1.out.e 3 _ rfl
    have e4 := cells_top HA1.out.e 4 _ rfl
    go_wp2_with fail
    have hcc := edit_right (c := c1) (c' := c2) enx elg esq (Kd.C_below H1.out HA1.out.b) (Kd.C_below H2.out HA1.out.b)
    rw [← Hn1.out, ← Hn2.out] at hcc
    refine hcc.mono ?_
    clear hcc
    rintro e w2 ⟨b2, rfl, hb2, hB2⟩
    have HA2 := Kp.mk (HA1.out.below hB2)
    have HE := Kp.mk hb2
    clear hb2 hB2 HA1 e0 e1 e2 e3 e4
    cases b2 with
    | false =>
      have z0 := cells_top HA2.out.z 0 _ rfl
      have z1 := cells_top HA2.out.z 1 _ rfl
      have z2 := cells_top HA2.out.z 2 _ rfl
      have z3 := cells_top HA2.out.z 3 _ rfl
      have zf0 := free_top HA2.out.z 0
      have zf1 := free_top HA2.out.z 1
      have zf2 := free_top HA2.out.z 2
      have zf3 := free_top HA2.out.z 3
      have hv : Kp (ApplyR rs nx lg sq add drop enx elg esq 1 [] 0 0 0) := ⟨.inl ⟨rfl, (fun hh => by have := HE.out.2 hh.2; cases this), rfl, rfl, rfl, rfl⟩⟩
      have hP := Kp.mk (HA2.out.put (.slice none 0 0) (.int .i64 0) (.int .i64 0) (.int .u64 0))
      go_wp2_with fail
      refine bodyPost_ret (results_ct rfl _ _ (w.heap.size + 1 + 1) _ _ _ _ rfl hP.out.1 Try.underlying27 rfl (by kernel_rfl)) rfl ?_
      exact ⟨1, [], 0, 0, 0, _, rfl, hv.out, Kd.R_nil _ _ _ _ _, hP.out.2⟩
    | true =>
      have HEt := Kp.mk (HE.out.1 rfl)
      clear HE
      have hr1 : n ≤ 1000 := by have := HVt.out.1.1; have := Hn.out; omega
      have hr2 : n1 ≤ 100 := by have := HEt.out.1.1; have := Hn1.out; omega
      have hr3 : n2 ≤ 100 := by have := HEt.out.1.2.1; have := Hn2.out; omega
      have v0 := cells_top HA2.out.v 0 _ rfl
      have v1 := cells_top HA2.out.v 1 _ rfl
      have v2 := cells_top HA2.out.v 2 _ rfl
      have v3 := cells_top HA2.out.v 3 _ rfl
      have e0 := cells_top HA2.out.e 0 _ rfl
      have e1 := cells_top HA2.out.e 1 _ rfl
      have e2 := cells_top HA2.out.e 2 _ rfl
      have e3 := cells_top HA2.out.e 3 _ rfl
      have e4 := cells_top HA2.out.e 4 _ rfl
      go_wp2_with fail
      have hcc := version_files (c := c) (c1 := c1) (c2 := c2) nx lg sq enx elg esq (Kd.C_below H.out HA2.out.b) (Kd.C_below H1.out HA2.out.b) (Kd.C_below H2.out HA2.out.b)
      rw [← Hn.out, ← Hn1.out, ← Hn2.out] at hcc
      refine hcc.mono ?_
      clear hcc v0 v1 v2 v3 e0 e1 e2 e3 e4
      rintro e w3 ⟨x3, rfl, hf, hB3⟩
      have HA3 := Kp.mk (HA2.out.below hB3)
      clear hB3 HA2
      have HVE := Kp.mk (And.intro HVt.out HEt.out)
      rcases hf with ⟨rfl, hf⟩ | ⟨hall, hf⟩
      · have Hf := Kp.mk hf
        clear hf
        have z0 := cells_top HA3.out.z 0 _ rfl
        have z1 := cells_top HA3.out.z 1 _ rfl
        have z2 := cells_top HA3.out.z 2 _ rfl
        have z3 := cells_top HA3.out.z 3 _ rfl
        have zf0 := free_top HA3.out.z 0
        have zf1 := free_top HA3.out.z 1
        have zf2 := free_top HA3.out.z 2
        have zf3 := free_top HA3.out.z 3
        have hv : Kp (ApplyR rs nx lg sq add drop enx elg esq 8 [] 0 0 0) := ⟨.inr ⟨HVE.out, .inl ⟨rfl, (fun hh => by obtain ⟨i, hi, hni⟩ := Hf.out; exact hni (hh i hi)), rfl, rfl, rfl, rfl⟩⟩⟩
        have hP := Kp.mk (HA3.out.put (.slice none 0 0) (.int .i64 0) (.int .i64 0) (.int .u64 0))
        go_wp2_with fail
        refine bodyPost_ret (results_ct rfl _ _ (w.heap.size + 1 + 1) _ _ _ _ rfl hP.out.1 Try.underlying27 rfl (by kernel_rfl)) rfl ?_
        exact ⟨8, [], 0, 0, 0, _, rfl, hv.out, Kd.R_nil _ _ _ _ _, hP.out.2⟩
      · have Hall := Kp.mk hall
        clear hall
        rcases hf with ⟨rfl, hf⟩ | ⟨rfl, hf⟩
        · have Hf := Kp.mk hf
          clear hf
          have z0 := cells_top HA3.out.z 0 _ rfl
          have z1 := cells_top HA3.out.z 1 _ rfl
          have z2 := cells_top HA3.out.z 2 _ rfl
          have z3 := cells_top HA3.out.z 3 _ rfl
          have zf0 := free_top HA3.out.z 0
          have zf1 := free_top HA3.out.z 1
          have zf2 := free_top HA3.out.z 2
          have zf3 := free_top HA3.out.z 3
          have hv : Kp (ApplyR rs nx lg sq add drop enx elg esq 9 [] 0 0 0) := ⟨.inr ⟨HVE.out, .inr ⟨Hall.out, .inl ⟨rfl, Hf.out, rfl, rfl, rfl, rfl⟩⟩⟩⟩
          have hP := Kp.mk (HA3.out.put (.slice none 0 0) (.int .i64 0) (.int .i64 0) (.int .u64 0))
          go_wp2_with fail
          refine bodyPost_ret (results_ct rfl _ _ (w.heap.size + 1 + 1) _ _ _ _ rfl hP.out.1 Try.underlying27 rfl (by kernel_rfl)) rfl ?_
          exact ⟨9, [], 0, 0, 0, _, rfl, hv.out, Kd.R_nil _ _ _ _ _, hP.out.2⟩
        · have Hnt : Kp (¬ twice rs add drop) := ⟨fun ⟨i, hi, hh⟩ => hf i hi hh⟩
          clear hf
          have v0 := cells_top HA3.out.v 0 _ rfl
          have v1 := cells_top HA3.out.v 1 _ rfl
          have v3 := cells_top HA3.out.v 3 _ rfl
          have e0 := cells_top HA3.out.e 0 _ rfl
          have e1 := cells_top HA3.out.e 1 _ rfl
          by_cases hlen : 1000 < (n : Int) - n2 + n1
          · have hl2 : Kp (1000 < (rs.length : Int) - drop.length + add.length) := ⟨by rw [← Hn.out, ← Hn1.out, ← Hn2.out]; exact hlen⟩
            have z0 := cells_top HA3.out.z 0 _ rfl
            have z1 := cells_top HA3.out.z 1 _ rfl
            have z2 := cells_top HA3.out.z 2 _ rfl
            have z3 := cells_top HA3.out.z 3 _ rfl
            have zf0 := free_top HA3.out.z 0
            have zf1 := free_top HA3.out.z 1
            have zf2 := free_top HA3.out.z 2
            have zf3 := free_top HA3.out.z 3
            have hv : Kp (ApplyR rs nx lg sq add drop enx elg esq 3 [] 0 0 0) := ⟨.inr ⟨HVE.out, .inr ⟨Hall.out, .inr ⟨Hnt.out, .inl ⟨rfl, hl2.out, rfl, rfl, rfl, rfl⟩⟩⟩⟩⟩
            have hP := Kp.mk (HA3.out.put (.slice none 0 0) (.int .i64 0) (.int .i64 0) (.int .u64 0))
            go_wp2_with fail
            refine bodyPost_ret (results_ct rfl _ _ (w.heap.size + 1 + 1) _ _ _ _ rfl hP.out.1 Try.underlying27 rfl (by kernel_rfl)) rfl ?_
            exact ⟨3, [], 0, 0, 0, _, rfl, hv.out, Kd.R_nil _ _ _ _ _, hP.out.2⟩
          · have hl2 : Kp ((rs.length : Int) - drop.length + add.length ≤ 1000) := ⟨by rw [← Hn.out, ← Hn1.out, ← Hn2.out]; omega⟩
            have hlen' : (n : Int) - n2 + n1 ≤ 1000 := by omega
            clear hlen
            go_wp2_with fail
            have hix := index_func (c := c) (A' := A2) (n' := n2) (c' := c2) (p := w3.heap.size) (w := w3.drew.alloc (.cells #[.slice A2 n2 c2] 29)) (Kd.C_alloc (Kd.C_drew (Kd.C_below H.out HA3.out.b)) _) (cell_new w3.drew _ _ 0 _ rfl) (by rw [Hn2.out]; exact Kd.C_alloc (Kd.C_drew (Kd.C_below H2.out HA3.out.b)) _)
            rw [← Hn.out] at hix
            have Hix := Kp.mk (hix.mono (R' := fun e w' => ∃ r : Int, e = .returned (.int .i64 r) ∧ firstI (fun a : Rn => a.file ∈ drop) rs zRn r ∧ Below w3.heap.size w3 w') (fun e w' hq => by
              obtain ⟨r, he, hf, hb⟩ := hq
              exact ⟨r, he, hf, (((Below.refl w3.heap.size w3).drew.alloc (by simp) _).trans (hb.mono (by simp)))⟩))
            clear hix
            have Hv0 := Kp.mk v0
            have He1 := Kp.mk e1
            go_region_held3 (fun W => W.cell? ⟨w.heap.size, 0, none⟩ = some (.slice A n c) ∧ W.cell? ⟨w.heap.size + 1, 1, none⟩ = some (.slice A2 n2 c2)) (first | go_keep | exact ⟨k0, k1⟩)
              (first
              | (go_at_call 24; refine (with_any _ _ _ _).mono ?_; rintro e w4 ⟨rfl, rfl⟩)
              | (go_at_call 23; refine Hix.out.mono ?_; rintro e w4 ⟨r4, rfl, hf4, hb4⟩; obtain ⟨at', hmx, hat, hale⟩ := at_of hf4; have k0 := pw_cell_below hb4 Hv0.out; have k1 := pw_cell_below hb4 He1.out; have Hat := Kp.mk hat; have Hale := Kp.mk hale; have HA4 := Kp.mk (HA3.out.below hb4); clear hf4 hb4 hat hale))
            all_goals
              have hd1 : ∃ d : Nat, min ((at' : Int) + n2) n = (at' : Int) + d ∧ d ≤ n2 ∧ at' + d ≤ n ∧ (at' + n2 ≤ n → d = n2) := ⟨min n2 (n - at'), by have := Hale.out; have := Hn.out; omega, by omega, by have := Hale.out; have := Hn.out; omega, by omega⟩
              obtain ⟨d, hmn, hd2, hd3, hd4⟩ := hd1
              have Hd4 := Kp.mk hd4
              clear hd4 k0 k1
              obtain ⟨i0, hi0, _, hz1, _⟩ := info_parts Try.infoRn
              have hcut := cut_mid (P := Try.prog) 24 42 .i64 .i64 Try.underlying24 hi0 6 hz1 A n c (at' : Int) ((at' : Int) + d) (by omega) (by omega) (by omega) hc
              rw [show ((at' : Int) + (d : Int)).toNat - (at' : Int).toNat = d by omega, Int.toNat_natCast] at hcut
              have hC5 := Kd.C_mid (c := c) (lo := at') (hi := at' + d) H.out (by omega) (by have := Hn.out; omega) (by have := Hn.out; omega)
              have hC5' : kRn.C w (if c = at' then A else A.map (·.add (at' * 6))) ((rs.take (at' + d)).drop at').length ((rs.take (at' + d)).drop at') := hC5
              rw [show ((rs.take (at' + d)).drop at').length = d by rw [List.length_drop, List.length_take]; have := Hn.out; omega] at hC5'
              obtain ⟨A5, hA5⟩ : ∃ A5, A5 = (if c = at' then A else A.map (·.add (at' * 6))) := ⟨_, rfl⟩
              rw [← hA5] at hcut hC5'
              have HC5 := Kp.mk hC5'
              have HI0 := Kp.mk (And.intro hi0 hz1)
              clear hC5 hC5' hA5 hi0 hz1
              have v0 := cells_top HA4.out.v 0 _ rfl
              have e1 := cells_top HA4.out.e 1 _ rfl
              go_wp2_with fail
              clear hcut v0 e1
              go_loopw [67] (fun i wr => ∃ k : Nat, k ≤ d ∧ i = .int .i64 k ∧ Kp (∀ j, j < k → (rs.getD (at' + j) zRn).file ∈ drop) ∧ Kp (Ap w wr #[.slice A n c, .int .i64 nx, .int .i64 lg, .int .u64 sq] #[.slice A1 n1 c1, .slice A2 n2 c2, .int .i64 enx, .int .i64 elg, .int .u64 esq] #[.slice none 0 0, .int .i64 0, .int .i64 0, .int .u64 0])) (fun i _ => d - (intOf i).toNat)
              case atStart => exact ⟨0, Nat.zero_le _, rfl, ⟨by omega⟩, HA4⟩
              case round =>
                obtain ⟨k, hk, rfl, HN, HA⟩ := hrel
                by_cases hlt : k < d
                · obtain ⟨ad, A6, c6, A7, c7, rfl, x0, x1, x2, x3, x4, x5, _⟩ := rn_at (Kd.C_below HC5.out HA.out.b) k hlt
                  have Hg : Kp (((rs.take (at' + d)).drop at').getD k zRn = rs.getD (at' + k) zRn) := ⟨by
                    rw [List.getD_eq_getElem?_getD, List.getElem?_drop, List.getElem?_take_of_lt (by omega), ← List.getD_eq_getElem?_getD]⟩
                  rw [Hg.out] at x0 x1 x2 x3 x4 x5
                  obtain ⟨r, hr⟩ : ∃ r, rs.getD (at' + k) zRn = r := ⟨_, rfl⟩
                  rw [hr] at x0 x1 x2 x3 x4 x5
                  have Hr := Kp.mk hr
                  clear hr Hg
                  have HWb := Kp.mk (alloc_below wr (.cells #[.int .i64 r.file, .int .i64 r.bytes, .int .i64 r.count, .slice A6 r.first.length c6, .slice A7 r.last.length c7, .int .u64 r.seq] 42))
                  have s1 := pw_cell_below HWb.out (cells_top HA.out.e 1 _ rfl)
                  have Hs1 := Kp.mk s1
                  have y0 := cell_new wr #[.int .i64 r.file, .int .i64 r.bytes, .int .i64 r.count, .slice A6 r.first.length c6, .slice A7 r.last.length c7, .int .u64 r.seq] 42 0 _ rfl
                  have y1 := cell_new wr #[.int .i64 r.file, .int .i64 r.bytes, .int .i64 r.count, .slice A6 r.first.length c6, .slice A7 r.last.length c7, .int .u64 r.seq] 42 1 _ rfl
                  have y2 := cell_new wr #[.int .i64 r.file, .int .i64 r.bytes, .int .i64 r.count, .slice A6 r.first.length c6, .slice A7 r.last.length c7, .int .u64 r.seq] 42 2 _ rfl
                  have y3 := cell_new wr #[.int .i64 r.file, .int .i64 r.bytes, .int .i64 r.count, .slice A6 r.first.length c6, .slice A7 r.last.length c7, .int .u64 r.seq] 42 3 _ rfl
                  have y4 := cell_new wr #[.int .i64 r.file, .int .i64 r.bytes, .int .i64 r.count, .slice A6 r.first.length c6, .slice A7 r.last.length c7, .int .u64 r.seq] 42 4 _ rfl
                  have y5 := cell_new wr #[.int .i64 r.file, .int .i64 r.bytes, .int .i64 r.count, .slice A6 r.first.length c6, .slice A7 r.last.length c7, .int .u64 r.seq] 42 5 _ rfl
                  have Hy := Kp.mk (And.intro y0 (And.intro y1 (And.intro y2 (And.intro y3 (And.intro y4 y5)))))
                  by_cases hin : r.file ∈ drop
                  · have hwt := with_test (p := wr.heap.size + 1) (A := A2) (n := n2) (c := c2) (xs := drop) (w := (wr.alloc (.cells #[.int .i64 r.file, .int .i64 r.bytes, .int .i64 r.count, .slice A6 r.first.length c6, .slice A7 r.last.length c7, .int .u64 r.seq] 42)).drew.alloc (.cells #[.slice A2 n2 c2] 29)) r.file (.int .i64 r.bytes) (.int .i64 r.count) (.slice A6 r.first.length c6) (.slice A7 r.last.length c7) (.int .u64 r.seq) (by have := cell_new (wr.alloc (.cells #[.int .i64 r.file, .int .i64 r.bytes, .int .i64 r.count, .slice A6 r.first.length c6, .slice A7 r.last.length c7, .int .u64 r.seq] 42)).drew #[.slice A2 n2 c2] 29 0 _ rfl; rwa [show (wr.alloc (.cells #[.int .i64 r.file, .int .i64 r.bytes, .int .i64 r.count, .slice A6 r.first.length c6, .slice A7 r.last.length c7, .int .u64 r.seq] 42)).drew.heap.size = wr.heap.size + 1 by simp] at this) (by rw [Hn2.out]; exact Kd.C_alloc (Kd.C_drew (Kd.C_alloc (Kd.C_below H2.out HA.out.b) _)) _)
                    rw [decide_eq_true hin] at hwt
                    have Hwt := Kp.mk (hwt.mono (R' := fun e w' => e = .returned (.bool true) ∧ Below (wr.heap.size + 1) (wr.alloc (.cells #[.int .i64 r.file, .int .i64 r.bytes, .int .i64 r.count, .slice A6 r.first.length c6, .slice A7 r.last.length c7, .int .u64 r.seq] 42)) w') (fun e w' hq => ⟨hq.1, ((Below.refl (wr.heap.size + 1) (wr.alloc (.cells #[.int .i64 r.file, .int .i64 r.bytes, .int .i64 r.count, .slice A6 r.first.length c6, .slice A7 r.last.length c7, .int .u64 r.seq] 42))).drew.alloc (by simp) _).trans (hq.2.mono (by simp))⟩))
                    clear hwt
                    have hv : Kp (∀ j, j < k + 1 → (rs.getD (at' + j) zRn).file ∈ drop) := ⟨fun j hj => by
                      by_cases hjk : j = k
                      · subst hjk; rw [Hr.out]; exact hin
                      · exact HN.out j (by omega)⟩
                    clear hin
                    go_wp2_with fail
                    go_region_held3 (fun W => W.cell? ⟨w.heap.size + 1, 1, none⟩ = some (.slice A2 n2 c2) ∧ W.cell? ⟨wr.heap.size, 0, none⟩ = some (.int .i64 r.file) ∧ W.cell? ⟨wr.heap.size, 1, none⟩ = some (.int .i64 r.bytes) ∧ W.cell? ⟨wr.heap.size, 2, none⟩ = some (.int .i64 r.count) ∧ W.cell? ⟨wr.heap.size, 3, none⟩ = some (.slice A6 r.first.length c6) ∧ W.cell? ⟨wr.heap.size, 4, none⟩ = some (.slice A7 r.last.length c7) ∧ W.cell? ⟨wr.heap.size, 5, none⟩ = some (.int .u64 r.seq)) (first | go_keep | exact ⟨k1, k2⟩)
                      (first
                      | (go_at_call 24; refine (with_any _ _ _ _).mono ?_; rintro e w5 ⟨rfl, rfl⟩)
                      | (go_at_call 41; refine Hwt.out.mono ?_; rintro e w5 ⟨rfl, hb5⟩; have hb5' : Below (wr.alloc (.cells #[.int .i64 r.file, .int .i64 r.bytes, .int .i64 r.count, .slice A6 r.first.length c6, .slice A7 r.last.length c7, .int .u64 r.seq] 42)).heap.size (wr.alloc (.cells #[.int .i64 r.file, .int .i64 r.bytes, .int .i64 r.count, .slice A6 r.first.length c6, .slice A7 r.last.length c7, .int .u64 r.seq] 42)) w5 := hb5.mono (by simp); have k1 := pw_cell_below hb5' Hs1.out; have k2 : w5.cell? ⟨wr.heap.size, 0, none⟩ = some (.int .i64 r.file) ∧ w5.cell? ⟨wr.heap.size, 1, none⟩ = some (.int .i64 r.bytes) ∧ w5.cell? ⟨wr.heap.size, 2, none⟩ = some (.int .i64 r.count) ∧ w5.cell? ⟨wr.heap.size, 3, none⟩ = some (.slice A6 r.first.length c6) ∧ w5.cell? ⟨wr.heap.size, 4, none⟩ = some (.slice A7 r.last.length c7) ∧ w5.cell? ⟨wr.heap.size, 5, none⟩ = some (.int .u64 r.seq) := ⟨pw_cell_below hb5' Hy.out.1, pw_cell_below hb5' Hy.out.2.1, pw_cell_below hb5' Hy.out.2.2.1, pw_cell_below hb5' Hy.out.2.2.2.1, pw_cell_below hb5' Hy.out.2.2.2.2.1, pw_cell_below hb5' Hy.out.2.2.2.2.2⟩; have HA5 := Kp.mk (HA.out.below (HWb.out.trans (hb5'.mono (by simp)))); clear hb5 hb5'))
                    all_goals
                      clear k1 k2
                      go_wp2_with fail
                      go_roundw
                      case rel => exact ⟨k + 1, by omega, by go_num, hv, HA5⟩
                      case measure => simp [intOf]; omega
                  · have hwt := with_test (p := wr.heap.size + 1) (A := A2) (n := n2) (c := c2) (xs := drop) (w := (wr.alloc (.cells #[.int .i64 r.file, .int .i64 r.bytes, .int .i64 r.count, .slice A6 r.first.length c6, .slice A7 r.last.length c7, .int .u64 r.seq] 42)).drew.alloc (.cells #[.slice A2 n2 c2] 29)) r.file (.int .i64 r.bytes) (.int .i64 r.count) (.slice A6 r.first.length c6) (.slice A7 r.last.length c7) (.int .u64 r.seq) (by have := cell_new (wr.alloc (.cells #[.int .i64 r.file, .int .i64 r.bytes, .int .i64 r.count, .slice A6 r.first.length c6, .slice A7 r.last.length c7, .int .u64 r.seq] 42)).drew #[.slice A2 n2 c2] 29 0 _ rfl; rwa [show (wr.alloc (.cells #[.int .i64 r.file, .int .i64 r.bytes, .int .i64 r.count, .slice A6 r.first.length c6, .slice A7 r.last.length c7, .int .u64 r.seq] 42)).drew.heap.size = wr.heap.size + 1 by simp] at this) (by rw [Hn2.out]; exact Kd.C_alloc (Kd.C_drew (Kd.C_alloc (Kd.C_below H2.out HA.out.b) _)) _)
                    rw [decide_eq_false hin] at hwt
                    have Hwt := Kp.mk (hwt.mono (R' := fun e w' => e = .returned (.bool false) ∧ Below (wr.heap.size + 1) (wr.alloc (.cells #[.int .i64 r.file, .int .i64 r.bytes, .int .i64 r.count, .slice A6 r.first.length c6, .slice A7 r.last.length c7, .int .u64 r.seq] 42)) w') (fun e w' hq => ⟨hq.1, ((Below.refl (wr.heap.size + 1) (wr.alloc (.cells #[.int .i64 r.file, .int .i64 r.bytes, .int .i64 r.count, .slice A6 r.first.length c6, .slice A7 r.last.length c7, .int .u64 r.seq] 42))).drew.alloc (by simp) _).trans (hq.2.mono (by simp))⟩))
                    clear hwt
                    have hnr : Kp (¬ RowAt rs drop at') := ⟨fun hh => by have := hh.2 (at' + k) (by omega) (by have := Hn2.out; omega); rw [Hr.out] at this; exact hin this⟩
                    clear hin
                    go_wp2_with fail
                    go_region_held3 (fun W => W.cell? ⟨w.heap.size + 1, 1, none⟩ = some (.slice A2 n2 c2) ∧ W.cell? ⟨wr.heap.size, 0, none⟩ = some (.int .i64 r.file) ∧ W.cell? ⟨wr.heap.size, 1, none⟩ = some (.int .i64 r.bytes) ∧ W.cell? ⟨wr.heap.size, 2, none⟩ = some (.int .i64 r.count) ∧ W.cell? ⟨wr.heap.size, 3, none⟩ = some (.slice A6 r.first.length c6) ∧ W.cell? ⟨wr.heap.size, 4, none⟩ = some (.slice A7 r.last.length c7) ∧ W.cell? ⟨wr.heap.size, 5, none⟩ = some (.int .u64 r.seq)) (first | go_keep | exact ⟨k1, k2⟩)
                      (first
                      | (go_at_call 24; refine (with_any _ _ _ _).mono ?_; rintro e w5 ⟨rfl, rfl⟩)
                      | (go_at_call 41; refine Hwt.out.mono ?_; rintro e w5 ⟨rfl, hb5⟩; have hb5' : Below (wr.alloc (.cells #[.int .i64 r.file, .int .i64 r.bytes, .int .i64 r.count, .slice A6 r.first.length c6, .slice A7 r.last.length c7, .int .u64 r.seq] 42)).heap.size (wr.alloc (.cells #[.int .i64 r.file, .int .i64 r.bytes, .int .i64 r.count, .slice A6 r.first.length c6, .slice A7 r.last.length c7, .int .u64 r.seq] 42)) w5 := hb5.mono (by simp); have k1 := pw_cell_below hb5' Hs1.out; have k2 : w5.cell? ⟨wr.heap.size, 0, none⟩ = some (.int .i64 r.file) ∧ w5.cell? ⟨wr.heap.size, 1, none⟩ = some (.int .i64 r.bytes) ∧ w5.cell? ⟨wr.heap.size, 2, none⟩ = some (.int .i64 r.count) ∧ w5.cell? ⟨wr.heap.size, 3, none⟩ = some (.slice A6 r.first.length c6) ∧ w5.cell? ⟨wr.heap.size, 4, none⟩ = some (.slice A7 r.last.length c7) ∧ w5.cell? ⟨wr.heap.size, 5, none⟩ = some (.int .u64 r.seq) := ⟨pw_cell_below hb5' Hy.out.1, pw_cell_below hb5' Hy.out.2.1, pw_cell_below hb5' Hy.out.2.2.1, pw_cell_below hb5' Hy.out.2.2.2.1, pw_cell_below hb5' Hy.out.2.2.2.2.1, pw_cell_below hb5' Hy.out.2.2.2.2.2⟩; have HA5 := Kp.mk (HA.out.below (HWb.out.trans (hb5'.mono (by simp)))); clear hb5 hb5'))
                    all_goals
                      clear k1 k2
                      have z0 := cells_top HA5.out.z 0 _ rfl
                      have z1 := cells_top HA5.out.z 1 _ rfl
                      have z2 := cells_top HA5.out.z 2 _ rfl
                      have z3 := cells_top HA5.out.z 3 _ rfl
                      have zf0 := free_top HA5.out.z 0
                      have zf1 := free_top HA5.out.z 1
                      have zf2 := free_top HA5.out.z 2
                      have zf3 := free_top HA5.out.z 3
                      have hv : Kp (ApplyR rs nx lg sq add drop enx elg esq 10 [] 0 0 0) := ⟨.inr ⟨HVE.out, .inr ⟨Hall.out, .inr ⟨Hnt.out, .inr ⟨hl2.out, at', Hat.out, .inl ⟨rfl, hnr.out, rfl, rfl, rfl, rfl⟩⟩⟩⟩⟩⟩
                      have hP := Kp.mk (HA5.out.put (.slice none 0 0) (.int .i64 0) (.int .i64 0) (.int .u64 0))
                      go_wp2_with fail
                      refine bodyPost_ret (results_ct rfl _ _ (w.heap.size + 1 + 1) _ _ _ _ rfl hP.out.1 Try.underlying27 rfl (by kernel_rfl)) rfl ?_
                      exact ⟨10, [], 0, 0, 0, _, rfl, hv.out, Kd.R_nil _ _ _ _ _, hP.out.2⟩
                · have v0 := cells_top HA.out.v 0 _ rfl
                  by_cases hov : n < at' + n2
                  · have hnr : Kp (¬ RowAt rs drop at') := ⟨fun hh => by have := hh.1; have := Hn.out; have := Hn2.out; omega⟩
                    have z0 := cells_top HA.out.z 0 _ rfl
                    have z1 := cells_top HA.out.z 1 _ rfl
                    have z2 := cells_top HA.out.z 2 _ rfl
                    have z3 := cells_top HA.out.z 3 _ rfl
                    have zf0 := free_top HA.out.z 0
                    have zf1 := free_top HA.out.z 1
                    have zf2 := free_top HA.out.z 2
                    have zf3 := free_top HA.out.z 3
                    have hv : Kp (ApplyR rs nx lg sq add drop enx elg esq 10 [] 0 0 0) := ⟨.inr ⟨HVE.out, .inr ⟨Hall.out, .inr ⟨Hnt.out, .inr ⟨hl2.out, at', Hat.out, .inl ⟨rfl, hnr.out, rfl, rfl, rfl, rfl⟩⟩⟩⟩⟩⟩
                    have hP := Kp.mk (HA.out.put (.slice none 0 0) (.int .i64 0) (.int .i64 0) (.int .u64 0))
                    go_wp2_with fail
                    refine bodyPost_ret (results_ct rfl _ _ (w.heap.size + 1 + 1) _ _ _ _ rfl hP.out.1 Try.underlying27 rfl (by kernel_rfl)) rfl ?_
                    exact ⟨10, [], 0, 0, 0, _, rfl, hv.out, Kd.R_nil _ _ _ _ _, hP.out.2⟩
                  · have hov' : at' + n2 ≤ n := by omega
                    have hdn : d = n2 := Hd4.out hov'
                    have Hrow : Kp (RowAt rs drop at') := ⟨by have := Hn.out; have := Hn2.out; omega, fun i hi1 hi2 => by
                      have := HN.out (i - at') (by have := Hn2.out; omega)
                      rwa [show at' + (i - at') = i by omega] at this⟩
                    clear hov hdn HN
                    have v3 := cells_top HA.out.v 3 _ rfl
                    have e0 := cells_top HA.out.e 0 _ rfl
                    go_upto_region 18 with (fail)
                    have hcutA := cut_to (P := Try.prog) 24 42 .i64 Try.underlying24 HI0.out.1 A n c (at' : Int) (by omega) (by omega) hc
                    rw [Int.toNat_natCast] at hcutA
                    have hcutB := cut_from (P := Try.prog) 24 42 .i64 Try.underlying24 HI0.out.1 6 HI0.out.2 A n c ((at' : Int) + n2) (by omega) (by omega)
                    rw [show ((at' : Int) + (n2 : Int)).toNat = at' + n2 by omega] at hcutB
                    have hCz : kRn.C w (if c = at' + n2 then A else A.map (·.add ((at' + n2) * 6))) (rs.drop (at' + n2)).length (rs.drop (at' + n2)) := Kd.C_drop (c := c) (m := at' + n2) H.out (by have := Hn.out; omega) (by have := Hn.out; omega)
                    obtain ⟨A8, hA8⟩ : ∃ A8, A8 = (if c = at' + n2 then A else A.map (·.add ((at' + n2) * 6))) := ⟨_, rfl⟩
                    rw [← hA8] at hcutB hCz
                    clear hA8
                    obtain ⟨c8, hc8⟩ : ∃ c8, c8 = c - (at' + n2) := ⟨_, rfl⟩
                    rw [← hc8] at hcutB
                    clear hc8
                    obtain ⟨zs, hzs⟩ : ∃ zs, zs = rs.drop (at' + n2) := ⟨_, rfl⟩
                    rw [← hzs] at hCz
                    obtain ⟨xs, hxs⟩ : ∃ xs, xs = rs.take at' := ⟨_, rfl⟩
                    have hCx : kRn.C w A xs.length xs := by rw [hxs]; exact Kd.C_take H.out (by have := Hn.out; omega)
                    have hxl : xs.length = at' := by rw [hxs, List.length_take]; have := Hn.out; omega
                    have hzl : n - (at' + n2) = zs.length := by rw [hzs, List.length_drop]; have := Hn.out; omega
                    rw [hzl] at hcutB
                    have hL : outL rs add drop at' = xs ++ add ++ zs := by unfold outL; rw [hxs, hzs, Hn2.out]
                    obtain ⟨L, hLd⟩ : ∃ L, L = xs ++ add ++ zs := ⟨_, rfl⟩
                    have HL := Kp.mk (hL.trans hLd.symm)
                    have hsh : ShortRs L := fun i hi => by
                      have hmem : L.getD i zRn ∈ L := getD_mem hi
                      have hok : rnOk (L.getD i zRn) := by
                        rw [hLd, List.mem_append, List.mem_append] at hmem
                        rw [← hLd] at hmem
                        rcases hmem with (hm | hm) | hm
                        · rw [hxs] at hm
                          obtain ⟨j, hj, e⟩ := mem_getD (z := zRn) (List.mem_of_mem_take hm)
                          rw [← e]; exact (HVt.out.2.2 j hj).1
                        · obtain ⟨j, hj, e⟩ := mem_getD (z := zRn) hm
                          rw [← e]; exact HEt.out.2.2.1 j hj
                        · rw [hzs] at hm
                          obtain ⟨j, hj, e⟩ := mem_getD (z := zRn) (List.mem_of_mem_drop hm)
                          rw [← e]; exact (HVt.out.2.2 j hj).1
                      unfold rnOk at hok
                      exact ⟨by omega, by omega⟩
                    have hLl : L.length ≤ 2000 := by rw [hLd, List.length_append, List.length_append, ← Hn1.out, hxl, ← hzl]; omega
                    have Hsh := Kp.mk hsh
                    have HLl := Kp.mk hLl
                    have hlsum : xs.length + add.length + zs.length ≤ 100000 := by rw [hxl, ← Hn1.out, ← hzl]; omega
                    have hcc : ∀ (W : World) (q : Nat), Below wr.heap.size wr W → W.cell? ⟨q, 0, none⟩ = some (.slice A at' c) → W.cell? ⟨q, 1, none⟩ = some (.slice A1 n1 c1) → W.cell? ⟨q, 2, none⟩ = some (.slice A8 zs.length c8) →
                        Calls Try.prog 26 #[.slice (some ⟨q, 0, none⟩) 3 3] W (fun e w' => ∃ A9 c9, e = .returned (.slice A9 L.length c9) ∧ kRn.C w' A9 L.length L ∧ Below W.heap.size W w' ∧ Below wr.heap.size wr w') := by
                      intro W q hW q0 q1 q2
                      have hb := below_then HA.out.b HA.out.b.size hW
                      have := concat3 (w := W) (p := q) (c0 := c) (c1 := c1) (c2 := c8) (A0 := A) (A1 := A1) (A2 := A8) (xs := xs) (ys := add) (zs := zs) (by rw [hxl]; exact q0) (by rw [← Hn1.out]; exact q1) q2 (Kd.C_below hCx hb) (Kd.C_below H1.out hb) (Kd.C_below hCz hb) hlsum
                      rw [← hLd] at this
                      exact this.mono (fun e w' hq => by
                        obtain ⟨A9, c9, he, _, hC, hb'⟩ := hq
                        exact ⟨A9, c9, he, hC, hb', below_then hW hW.size hb'⟩)
                    have hown : ∀ (W : World) (A9 : Option Addr) (c9 : Nat), kRn.C W A9 L.length L → Below wr.heap.size wr W →
                        Calls Try.prog 25 #[.slice A9 L.length c9] W (fun e w' => ∃ A10 c10, e = .returned (.slice A10 L.length c10) ∧ kRn.R 42 w' w.heap.size (fun k => W.heap.size ≤ k) (.slice A10 L.length c10) L ∧ Below W.heap.size W w' ∧ Below wr.heap.size wr w') := by
                      intro W A9 c9 hC hW
                      refine (version_own hC (by omega) hsh).mono (fun e w' hq => ?_)
                      obtain ⟨v7, he, hR, hb'⟩ := hq
                      obtain ⟨A10, c10, rfl⟩ := Kd.R_slice hR
                      exact ⟨A10, c10, he, Kd.R_lower (Kd.R_mono (Kd.R_bound hR) (fun k hk => hk.2.1)) (Nat.le_trans HA.out.b.size hW.size), hb', below_then hW hW.size hb'⟩
                    have Hcc := Kp.mk hcc
                    have Hown := Kp.mk hown
                    have Hzl := Kp.mk hzl
                    have Hlz : Kp (zs.length = zs.length) := ⟨rfl⟩
                    clear hcc hown hsh hLl hCz hCx hL hLd hxs hzs hxl hzl hlsum
                    have hws : IntKind.i64.wrap ((at' : Int) + (n2 : Int)) = (at' : Int) + (n2 : Int) := IntWalk.i64_in _ (by omega)
                    have hzw : w.heap.size + 1 + 1 < wr.heap.size := lt_of_block HA.out.z
                    have Hzw := Kp.mk hzw
                    have HZ2 : Kp (w.heap.size < wr.heap.size ∧ w.heap.size + 1 < wr.heap.size) := ⟨by omega, by omega⟩
                    have ne1 : wr.heap.size ≠ w.heap.size := by omega
                    have ne2 : wr.heap.size ≠ w.heap.size + 1 := by omega
                    have ne3 : wr.heap.size + 1 ≠ w.heap.size := by omega
                    go_cut [11] (fun u W => ∃ (g : Nat) (A9 : Option Addr) (c9 : Nat), u = .pointer (some ⟨g, 0, none⟩) ∧ Kp (w.heap.size + 1 + 1 < g) ∧ Kp (W.heap[g]? = some (.cells #[.slice A9 L.length c9, .int .i64 0, .int .i64 0, .int .u64 sq] 27 (0, 0))) ∧ Kp (kRn.R 42 W w.heap.size (fun k => k ≠ g ∧ True) (.slice A9 L.length c9) L) ∧ Kp (Ap w W #[.slice A n c, .int .i64 nx, .int .i64 lg, .int .u64 sq] #[.slice A1 n1 c1, .slice A2 n2 c2, .int .i64 enx, .int .i64 elg, .int .u64 esq] #[.slice none 0 0, .int .i64 0, .int .i64 0, .int .u64 0]))
                    case first =>
                      have Hv0 := Kp.mk v0
                      have Hv3 := Kp.mk v3
                      have He0 := Kp.mk e0
                      go_region_held3 (fun W => W.cell? ⟨w.heap.size, 0, none⟩ = some (.slice A n c) ∧ W.cell? ⟨w.heap.size, 3, none⟩ = some (.int .u64 sq) ∧ W.cell? ⟨w.heap.size + 1, 0, none⟩ = some (.slice A1 n1 c1)) (first | go_keep | exact ⟨k0, k1, k2⟩)
                        (first
                        | (go_at_call 26; refine (Hcc.out _ _ ?_ ?_ ?_ ?_).mono ?_; (repeat (first | exact Below.refl _ _ | apply below_alloc | apply below_drew)); (go_simp); (go_simp); (go_simp); rintro e w6 ⟨A9, c9, rfl, hC9, hb6, hbw6⟩; (try have HZB := Kp.mk (zb1 hb6)); (try have HZB := Kp.mk (zb2 hb6)); have k0 := pw_cell_below hbw6 Hv0.out; have k1 := pw_cell_below hbw6 Hv3.out; have k2 := pw_cell_below hbw6 He0.out; have ne4 := Nat.ne_of_gt (Nat.lt_of_lt_of_le HZ2.out.1 hbw6.size); have ne5 := Nat.ne_of_gt (Nat.lt_of_lt_of_le HZ2.out.2 hbw6.size); have HC9 := Kp.mk hC9; have HB6 := Kp.mk hbw6; have HB6' := Kp.mk hb6; clear hb6 hC9 hbw6)
                        | (go_at_call 25; refine (Hown.out _ _ _ ?_ ?_).mono ?_; (first | exact HC9.out | exact Kd.C_alloc HC9.out _); (first | exact HB6.out | exact below_alloc HB6.out _); rintro e w7 ⟨A10, c10, rfl, hR7, hb7, hbw7⟩; (first | have HZ7 := Kp.mk (blk_below HZB.out hb7) | have HZ7 := Kp.mk (heap_newb hb7) | skip); (try (have y0 := cells_top HZ7.out 0 _ rfl; have y1 := cells_top HZ7.out 1 _ rfl; have y2 := cells_top HZ7.out 2 _ rfl; have y3 := cells_top HZ7.out 3 _ rfl; have yf0 := free_top HZ7.out 0; have yf1 := free_top HZ7.out 1; have yf2 := free_top HZ7.out 2; have yf3 := free_top HZ7.out 3)); have k0 := pw_cell_below hbw7 Hv0.out; have k1 := pw_cell_below hbw7 Hv3.out; have k2 := pw_cell_below hbw7 He0.out; have HR7 := Kp.mk hR7; have HB7 := Kp.mk hbw7; have HB7' := Kp.mk hb7; clear hb7 hR7 hbw7))
                      · go_wp2_with fail
                        go_meet
                        have HA7 := HA.out.below HB7.out
                        refine ⟨w7.heap.size, A10, c10, rfl, ⟨?_⟩, ⟨heap_alloc_new w7 _⟩, ⟨Kd.R_mono (Kd.R_alloc (Kd.R_elderB HR7.out w7.heap.size (Nat.le_refl _)) _) (fun k hk => ⟨hk.2, trivial⟩)⟩, ⟨HA7.below (alloc_below _ _)⟩⟩
                        have := HB7.out.size
                        exact Nat.lt_of_lt_of_le Hzw.out this
                      · go_wp2_with fail
                        go_meet
                        have HA7 := HA.out.below HB7.out
                        have hg : w.heap.size + 1 + 1 < w6.heap.size := Nat.lt_of_lt_of_le Hzw.out HB6.out.size
                        exact ⟨w6.heap.size, A10, c10, rfl, ⟨hg⟩, ⟨laid4 HZ7.out _ _ _ _⟩, ⟨laid4_R HR7.out (by simp) _ _ _ _⟩, ⟨laid4_A HA7 hg _ _ _ _⟩⟩
                      · go_wp2_with fail
                        go_meet
                        have HA7 := HA.out.below HB7.out
                        have hs6 := HB6'.out.size
                        simp at hs6
                        have hg : w.heap.size + 1 + 1 < wr.heap.size + 1 := Nat.lt_succ_of_lt Hzw.out
                        exact ⟨wr.heap.size + 1, A10, c10, rfl, ⟨hg⟩, ⟨laid4 HZ7.out _ _ _ _⟩, ⟨laid4_R HR7.out (by omega) _ _ _ _⟩, ⟨laid4_A HA7 hg _ _ _ _⟩⟩
                      · go_wp2_with fail
                        go_meet
                        have HA7 := HA.out.below HB7.out
                        have hs6 := HB6'.out.size
                        simp at hs6
                        exact ⟨wr.heap.size, A10, c10, rfl, ⟨Hzw.out⟩, ⟨laid4 HZ7.out _ _ _ _⟩, ⟨laid4_R HR7.out (by omega) _ _ _ _⟩, ⟨laid4_A HA7 Hzw.out _ _ _ _⟩⟩
                    case rest =>
                      obtain ⟨g, A9, c9, rfl, Hg, HG, HRL, HAx⟩ := hcut
                      clear ne1 ne2 ne3 hws hcutA hcutB v0 v3 e0
                      have v1 := cells_top HAx.out.v 1 _ rfl
                      have v2 := cells_top HAx.out.v 2 _ rfl
                      have e2 := cells_top HAx.out.e 2 _ rfl
                      have e3 := cells_top HAx.out.e 3 _ rfl
                      have e4 := cells_top HAx.out.e 4 _ rfl
                      have y0 := cells_top HG.out 0 _ rfl
                      have y1 := cells_top HG.out 1 _ rfl
                      have y2 := cells_top HG.out 2 _ rfl
                      have y3 := cells_top HG.out 3 _ rfl
                      have yf1 := free_top HG.out 1
                      have yf2 := free_top HG.out 2
                      have yf3 := free_top HG.out 3
                      have hgne : g ≠ w.heap.size + 1 := by have := Hg.out; omega
                      have hgne2 : g ≠ w.heap.size := by have := Hg.out; omega
                      go_wp2_with fail
                      refine (later_any _ _ _).mono ?_
                      rintro e wc ⟨rfl, rfl⟩
                      go_wp2_with fail
                      refine (later_any _ _ _).mono ?_
                      rintro e wc ⟨rfl, rfl⟩
                      by_cases hes : 0 < esq
                      · have hos : outS sq esq = esq := if_pos hes
                        have Hos := Kp.mk hos
                        clear hos
                        have HA2 : Kp (Ap w (((wc.setCell ⟨g, 1, none⟩ (.int .i64 (laterI nx enx))).setCell ⟨g, 2, none⟩ (.int .i64 (laterI lg elg))).setCell ⟨g, 3, none⟩ (.int .u64 esq)) #[.slice A n c, .int .i64 nx, .int .i64 lg, .int .u64 sq] #[.slice A1 n1 c1, .slice A2 n2 c2, .int .i64 enx, .int .i64 elg, .int .u64 esq] #[.slice none 0 0, .int .i64 0, .int .i64 0, .int .u64 0]) := ⟨(((HAx.out.far Hg.out 1 (.int .i64 (laterI nx enx))).far Hg.out 2 (.int .i64 (laterI lg elg))).far Hg.out 3 (.int .u64 esq))⟩
                        have HG2 : Kp ((((wc.setCell ⟨g, 1, none⟩ (.int .i64 (laterI nx enx))).setCell ⟨g, 2, none⟩ (.int .i64 (laterI lg elg))).setCell ⟨g, 3, none⟩ (.int .u64 esq)).heap[g]? = some (.cells #[.slice A9 L.length c9, .int .i64 (laterI nx enx), .int .i64 (laterI lg elg), .int .u64 esq] 27 (0, 0))) := ⟨(heap_setCell_same _ _ 3 _ _ (.int .u64 esq) (heap_setCell_same _ _ 2 _ _ (.int .i64 (laterI lg elg)) (heap_setCell_same _ _ 1 _ _ (.int .i64 (laterI nx enx)) HG.out)))⟩
                        have HR2 : Kp (kRn.R 42 (((wc.setCell ⟨g, 1, none⟩ (.int .i64 (laterI nx enx))).setCell ⟨g, 2, none⟩ (.int .i64 (laterI lg elg))).setCell ⟨g, 3, none⟩ (.int .u64 esq)) w.heap.size (fun k => k ≠ g ∧ True) (.slice A9 L.length c9) L) := ⟨(Kd.R_far (p := ⟨g, 3, none⟩) (Kd.R_far (p := ⟨g, 2, none⟩) (Kd.R_far (p := ⟨g, 1, none⟩) HRL.out (fun k hk => hk.1) (.int .i64 (laterI nx enx))) (fun k hk => hk.1) (.int .i64 (laterI lg elg))) (fun k hk => hk.1) (.int .u64 esq))⟩
                        go_upto_region 24 with (fail)
                        clear v1 v2 e2 e3 e4 y0 y1 y2 y3 yf1 yf2 yf3
                        generalize (((wc.setCell ⟨g, 1, none⟩ (.int .i64 (laterI nx enx))).setCell ⟨g, 2, none⟩ (.int .i64 (laterI lg elg))).setCell ⟨g, 3, none⟩ (.int .u64 esq)) = W2 at HA2 HG2 HR2 ⊢
                        cases hb1 : laterB nx enx with
                        | false =>
                          have hng : Kp (¬ GoodAt rs nx lg sq add drop enx elg esq at') := ⟨fun hh => by have := hh.1; rw [hb1] at this; cases this⟩
                          clear hb1
                          have z0 := cells_top HA2.out.z 0 _ rfl
                          have z1 := cells_top HA2.out.z 1 _ rfl
                          have z2 := cells_top HA2.out.z 2 _ rfl
                          have z3 := cells_top HA2.out.z 3 _ rfl
                          have zf0 := free_top HA2.out.z 0
                          have zf1 := free_top HA2.out.z 1
                          have zf2 := free_top HA2.out.z 2
                          have zf3 := free_top HA2.out.z 3
                          have hv : Kp (ApplyR rs nx lg sq add drop enx elg esq 10 [] 0 0 0) := ⟨.inr ⟨HVE.out, .inr ⟨Hall.out, .inr ⟨Hnt.out, .inr ⟨hl2.out, at', Hat.out, .inr ⟨Hrow.out, .inl ⟨rfl, hng.out, rfl, rfl, rfl, rfl⟩⟩⟩⟩⟩⟩⟩
                          have hP := Kp.mk (HA2.out.put (.slice none 0 0) (.int .i64 0) (.int .i64 0) (.int .u64 0))
                          go_upto_region 25 with (fail)
                          repeat go_step
                          refine bodyPost_ret (results_ct rfl _ _ (w.heap.size + 1 + 1) _ _ _ _ rfl hP.out.1 Try.underlying27 rfl (by kernel_rfl)) rfl ?_
                          exact ⟨10, [], 0, 0, 0, _, rfl, hv.out, Kd.R_nil _ _ _ _ _, hP.out.2⟩
                        | true =>
                          have Hb1 := Kp.mk hb1
                          clear hb1
                          cases hb2 : laterB lg elg with
                          | false =>
                            have hng : Kp (¬ GoodAt rs nx lg sq add drop enx elg esq at') := ⟨fun hh => by have := hh.2.1; rw [hb2] at this; cases this⟩
                            clear hb2
                            have z0 := cells_top HA2.out.z 0 _ rfl
                            have z1 := cells_top HA2.out.z 1 _ rfl
                            have z2 := cells_top HA2.out.z 2 _ rfl
                            have z3 := cells_top HA2.out.z 3 _ rfl
                            have zf0 := free_top HA2.out.z 0
                            have zf1 := free_top HA2.out.z 1
                            have zf2 := free_top HA2.out.z 2
                            have zf3 := free_top HA2.out.z 3
                            have hv : Kp (ApplyR rs nx lg sq add drop enx elg esq 10 [] 0 0 0) := ⟨.inr ⟨HVE.out, .inr ⟨Hall.out, .inr ⟨Hnt.out, .inr ⟨hl2.out, at', Hat.out, .inr ⟨Hrow.out, .inl ⟨rfl, hng.out, rfl, rfl, rfl, rfl⟩⟩⟩⟩⟩⟩⟩
                            have hP := Kp.mk (HA2.out.put (.slice none 0 0) (.int .i64 0) (.int .i64 0) (.int .u64 0))
                            go_upto_region 25 with (fail)
                            repeat go_step
                            refine bodyPost_ret (results_ct rfl _ _ (w.heap.size + 1 + 1) _ _ _ _ rfl hP.out.1 Try.underlying27 rfl (by kernel_rfl)) rfl ?_
                            exact ⟨10, [], 0, 0, 0, _, rfl, hv.out, Kd.R_nil _ _ _ _ _, hP.out.2⟩
                          | true =>
                            have Hb2 := Kp.mk hb2
                            clear hb2
                            have v3 := cells_top HA2.out.v 3 _ rfl
                            have y0 := cells_top HG2.out 0 _ rfl
                            have y1 := cells_top HG2.out 1 _ rfl
                            have y2 := cells_top HG2.out 2 _ rfl
                            have y3 := cells_top HG2.out 3 _ rfl
                            by_cases hsm : sq ≤ esq
                            · have hcc := version_right (c := c9) (laterI nx enx) (laterI lg elg) esq (Kd.R_reads' HR2.out).2.2 hesq
                              have Hcc := Kp.mk hcc
                              have Hsm : Kp (sq ≤ outS sq esq) := ⟨by rw [Hos.out]; exact hsm⟩
                              clear hcc
                              go_wp2_with fail
                              refine Hcc.out.mono ?_
                              clear v3 y0 y1 y2 y3
                              rintro e w9 ⟨b9, rfl, hb9, hB9⟩
                              have HA9 := Kp.mk (HA2.out.below hB9)
                              have HG9 := Kp.mk (blk_below HG2.out hB9)
                              have HR9 := Kp.mk (Kd.R_below HR2.out hB9)
                              have Hb9 := Kp.mk hb9
                              clear hb9 hB9 HA2 HG2 HR2
                              cases b9 with
                              | false =>
                                have hng : Kp (¬ GoodAt rs nx lg sq add drop enx elg esq at') := ⟨fun hh => by have := hh.2.2.2; rw [HL.out, Hos.out] at this; have := Hb9.out.2 this; cases this⟩
                                have z0 := cells_top HA9.out.z 0 _ rfl
                                have z1 := cells_top HA9.out.z 1 _ rfl
                                have z2 := cells_top HA9.out.z 2 _ rfl
                                have z3 := cells_top HA9.out.z 3 _ rfl
                                have zf0 := free_top HA9.out.z 0
                                have zf1 := free_top HA9.out.z 1
                                have zf2 := free_top HA9.out.z 2
                                have zf3 := free_top HA9.out.z 3
                                have hv : Kp (ApplyR rs nx lg sq add drop enx elg esq 10 [] 0 0 0) := ⟨.inr ⟨HVE.out, .inr ⟨Hall.out, .inr ⟨Hnt.out, .inr ⟨hl2.out, at', Hat.out, .inr ⟨Hrow.out, .inl ⟨rfl, hng.out, rfl, rfl, rfl, rfl⟩⟩⟩⟩⟩⟩⟩
                                have hP := Kp.mk (HA9.out.put (.slice none 0 0) (.int .i64 0) (.int .i64 0) (.int .u64 0))
                                go_upto_region 25 with (fail)
                                repeat go_step
                                refine bodyPost_ret (results_ct rfl _ _ (w.heap.size + 1 + 1) _ _ _ _ rfl hP.out.1 Try.underlying27 rfl (by kernel_rfl)) rfl ?_
                                exact ⟨10, [], 0, 0, 0, _, rfl, hv.out, Kd.R_nil _ _ _ _ _, hP.out.2⟩
                              | true =>
                                have hgd : Kp (GoodAt rs nx lg sq add drop enx elg esq at') := ⟨⟨Hb1.out, Hb2.out, Hsm.out, by rw [HL.out, Hos.out]; exact Hb9.out.1 rfl⟩⟩
                                have hv : Kp (ApplyR rs nx lg sq add drop enx elg esq 0 L (laterI nx enx) (laterI lg elg) esq) := ⟨.inr ⟨HVE.out, .inr ⟨Hall.out, .inr ⟨Hnt.out, .inr ⟨hl2.out, at', Hat.out, .inr ⟨Hrow.out, .inr ⟨rfl, hgd.out, HL.out.symm, rfl, rfl, Hos.out.symm⟩⟩⟩⟩⟩⟩⟩
                                have z0 := cells_top HA9.out.z 0 _ rfl
                                have z1 := cells_top HA9.out.z 1 _ rfl
                                have z2 := cells_top HA9.out.z 2 _ rfl
                                have z3 := cells_top HA9.out.z 3 _ rfl
                                have zf0 := free_top HA9.out.z 0
                                have zf1 := free_top HA9.out.z 1
                                have zf2 := free_top HA9.out.z 2
                                have zf3 := free_top HA9.out.z 3
                                have y0 := cells_top HG9.out 0 _ rfl
                                have y1 := cells_top HG9.out 1 _ rfl
                                have y2 := cells_top HG9.out 2 _ rfl
                                have y3 := cells_top HG9.out 3 _ rfl
                                have hP := Kp.mk (HA9.out.put (.slice A9 L.length c9) (.int .i64 (laterI nx enx)) (.int .i64 (laterI lg elg)) (.int .u64 esq))
                                have hRf := Kp.mk (put_R HR9.out HA9.out.z (.slice A9 L.length c9) (.int .i64 (laterI nx enx)) (.int .i64 (laterI lg elg)) (.int .u64 esq))
                                go_upto_region 26 with (fail)
                                repeat go_step
                                refine bodyPost_ret (results_ct rfl _ _ (w.heap.size + 1 + 1) _ _ _ _ rfl hP.out.1 Try.underlying27 rfl (by kernel_rfl)) rfl ?_
                                exact ⟨0, L, _, _, _, _, rfl, hv.out, hRf.out, hP.out.2⟩
                            · have hsm' : esq < sq := by omega
                              have hng : Kp (¬ GoodAt rs nx lg sq add drop enx elg esq at') := ⟨fun hh => by have := hh.2.2.1; rw [Hos.out] at this; exact hsm this⟩
                              clear hsm
                              have z0 := cells_top HA2.out.z 0 _ rfl
                              have z1 := cells_top HA2.out.z 1 _ rfl
                              have z2 := cells_top HA2.out.z 2 _ rfl
                              have z3 := cells_top HA2.out.z 3 _ rfl
                              have zf0 := free_top HA2.out.z 0
                              have zf1 := free_top HA2.out.z 1
                              have zf2 := free_top HA2.out.z 2
                              have zf3 := free_top HA2.out.z 3
                              have hv : Kp (ApplyR rs nx lg sq add drop enx elg esq 10 [] 0 0 0) := ⟨.inr ⟨HVE.out, .inr ⟨Hall.out, .inr ⟨Hnt.out, .inr ⟨hl2.out, at', Hat.out, .inr ⟨Hrow.out, .inl ⟨rfl, hng.out, rfl, rfl, rfl, rfl⟩⟩⟩⟩⟩⟩⟩
                              have hP := Kp.mk (HA2.out.put (.slice none 0 0) (.int .i64 0) (.int .i64 0) (.int .u64 0))
                              go_upto_region 25 with (fail)
                              repeat go_step
                              refine bodyPost_ret (results_ct rfl _ _ (w.heap.size + 1 + 1) _ _ _ _ rfl hP.out.1 Try.underlying27 rfl (by kernel_rfl)) rfl ?_
                              exact ⟨10, [], 0, 0, 0, _, rfl, hv.out, Kd.R_nil _ _ _ _ _, hP.out.2⟩
                      · have hes' : esq ≤ 0 := by omega
                        have hos : outS sq esq = sq := if_neg hes
                        have Hos := Kp.mk hos
                        clear hos
                        have HA2 : Kp (Ap w ((wc.setCell ⟨g, 1, none⟩ (.int .i64 (laterI nx enx))).setCell ⟨g, 2, none⟩ (.int .i64 (laterI lg elg))) #[.slice A n c, .int .i64 nx, .int .i64 lg, .int .u64 sq] #[.slice A1 n1 c1, .slice A2 n2 c2, .int .i64 enx, .int .i64 elg, .int .u64 esq] #[.slice none 0 0, .int .i64 0, .int .i64 0, .int .u64 0]) := ⟨((HAx.out.far Hg.out 1 (.int .i64 (laterI nx enx))).far Hg.out 2 (.int .i64 (laterI lg elg)))⟩
                        have HG2 : Kp (((wc.setCell ⟨g, 1, none⟩ (.int .i64 (laterI nx enx))).setCell ⟨g, 2, none⟩ (.int .i64 (laterI lg elg))).heap[g]? = some (.cells #[.slice A9 L.length c9, .int .i64 (laterI nx enx), .int .i64 (laterI lg elg), .int .u64 sq] 27 (0, 0))) := ⟨(heap_setCell_same _ _ 2 _ _ (.int .i64 (laterI lg elg)) (heap_setCell_same _ _ 1 _ _ (.int .i64 (laterI nx enx)) HG.out))⟩
                        have HR2 : Kp (kRn.R 42 ((wc.setCell ⟨g, 1, none⟩ (.int .i64 (laterI nx enx))).setCell ⟨g, 2, none⟩ (.int .i64 (laterI lg elg))) w.heap.size (fun k => k ≠ g ∧ True) (.slice A9 L.length c9) L) := ⟨(Kd.R_far (p := ⟨g, 2, none⟩) (Kd.R_far (p := ⟨g, 1, none⟩) HRL.out (fun k hk => hk.1) (.int .i64 (laterI nx enx))) (fun k hk => hk.1) (.int .i64 (laterI lg elg)))⟩
                        go_upto_region 24 with (fail)
                        clear v1 v2 e2 e3 e4 y0 y1 y2 y3 yf1 yf2 yf3
                        generalize ((wc.setCell ⟨g, 1, none⟩ (.int .i64 (laterI nx enx))).setCell ⟨g, 2, none⟩ (.int .i64 (laterI lg elg))) = W2 at HA2 HG2 HR2 ⊢
                        cases hb1 : laterB nx enx with
                        | false =>
                          have hng : Kp (¬ GoodAt rs nx lg sq add drop enx elg esq at') := ⟨fun hh => by have := hh.1; rw [hb1] at this; cases this⟩
                          clear hb1
                          have z0 := cells_top HA2.out.z 0 _ rfl
                          have z1 := cells_top HA2.out.z 1 _ rfl
                          have z2 := cells_top HA2.out.z 2 _ rfl
                          have z3 := cells_top HA2.out.z 3 _ rfl
                          have zf0 := free_top HA2.out.z 0
                          have zf1 := free_top HA2.out.z 1
                          have zf2 := free_top HA2.out.z 2
                          have zf3 := free_top HA2.out.z 3
                          have hv : Kp (ApplyR rs nx lg sq add drop enx elg esq 10 [] 0 0 0) := ⟨.inr ⟨HVE.out, .inr ⟨Hall.out, .inr ⟨Hnt.out, .inr ⟨hl2.out, at', Hat.out, .inr ⟨Hrow.out, .inl ⟨rfl, hng.out, rfl, rfl, rfl, rfl⟩⟩⟩⟩⟩⟩⟩
                          have hP := Kp.mk (HA2.out.put (.slice none 0 0) (.int .i64 0) (.int .i64 0) (.int .u64 0))
                          go_upto_region 25 with (fail)
                          repeat go_step
                          refine bodyPost_ret (results_ct rfl _ _ (w.heap.size + 1 + 1) _ _ _ _ rfl hP.out.1 Try.underlying27 rfl (by kernel_rfl)) rfl ?_
                          exact ⟨10, [], 0, 0, 0, _, rfl, hv.out, Kd.R_nil _ _ _ _ _, hP.out.2⟩
                        | true =>
                          have Hb1 := Kp.mk hb1
                          clear hb1
                          cases hb2 : laterB lg elg with
                          | false =>
                            have hng : Kp (¬ GoodAt rs nx lg sq add drop enx elg esq at') := ⟨fun hh => by have := hh.2.1; rw [hb2] at this; cases this⟩
                            clear hb2
                            have z0 := cells_top HA2.out.z 0 _ rfl
                            have z1 := cells_top HA2.out.z 1 _ rfl
                            have z2 := cells_top HA2.out.z 2 _ rfl
                            have z3 := cells_top HA2.out.z 3 _ rfl
                            have zf0 := free_top HA2.out.z 0
                            have zf1 := free_top HA2.out.z 1
                            have zf2 := free_top HA2.out.z 2
                            have zf3 := free_top HA2.out.z 3
                            have hv : Kp (ApplyR rs nx lg sq add drop enx elg esq 10 [] 0 0 0) := ⟨.inr ⟨HVE.out, .inr ⟨Hall.out, .inr ⟨Hnt.out, .inr ⟨hl2.out, at', Hat.out, .inr ⟨Hrow.out, .inl ⟨rfl, hng.out, rfl, rfl, rfl, rfl⟩⟩⟩⟩⟩⟩⟩
                            have hP := Kp.mk (HA2.out.put (.slice none 0 0) (.int .i64 0) (.int .i64 0) (.int .u64 0))
                            go_upto_region 25 with (fail)
                            repeat go_step
                            refine bodyPost_ret (results_ct rfl _ _ (w.heap.size + 1 + 1) _ _ _ _ rfl hP.out.1 Try.underlying27 rfl (by kernel_rfl)) rfl ?_
                            exact ⟨10, [], 0, 0, 0, _, rfl, hv.out, Kd.R_nil _ _ _ _ _, hP.out.2⟩
                          | true =>
                            have Hb2 := Kp.mk hb2
                            clear hb2
                            have v3 := cells_top HA2.out.v 3 _ rfl
                            have y0 := cells_top HG2.out 0 _ rfl
                            have y1 := cells_top HG2.out 1 _ rfl
                            have y2 := cells_top HG2.out 2 _ rfl
                            have y3 := cells_top HG2.out 3 _ rfl
                            by_cases hsm : sq ≤ sq
                            · have hcc := version_right (c := c9) (laterI nx enx) (laterI lg elg) sq (Kd.R_reads' HR2.out).2.2 hsq
                              have Hcc := Kp.mk hcc
                              have Hsm : Kp (sq ≤ outS sq esq) := ⟨by rw [Hos.out]; exact hsm⟩
                              clear hcc
                              go_wp2_with fail
                              refine Hcc.out.mono ?_
                              clear v3 y0 y1 y2 y3
                              rintro e w9 ⟨b9, rfl, hb9, hB9⟩
                              have HA9 := Kp.mk (HA2.out.below hB9)
                              have HG9 := Kp.mk (blk_below HG2.out hB9)
                              have HR9 := Kp.mk (Kd.R_below HR2.out hB9)
                              have Hb9 := Kp.mk hb9
                              clear hb9 hB9 HA2 HG2 HR2
                              cases b9 with
                              | false =>
                                have hng : Kp (¬ GoodAt rs nx lg sq add drop enx elg esq at') := ⟨fun hh => by have := hh.2.2.2; rw [HL.out, Hos.out] at this; have := Hb9.out.2 this; cases this⟩
                                have z0 := cells_top HA9.out.z 0 _ rfl
                                have z1 := cells_top HA9.out.z 1 _ rfl
                                have z2 := cells_top HA9.out.z 2 _ rfl
                                have z3 := cells_top HA9.out.z 3 _ rfl
                                have zf0 := free_top HA9.out.z 0
                                have zf1 := free_top HA9.out.z 1
                                have zf2 := free_top HA9.out.z 2
                                have zf3 := free_top HA9.out.z 3
                                have hv : Kp (ApplyR rs nx lg sq add drop enx elg esq 10 [] 0 0 0) := ⟨.inr ⟨HVE.out, .inr ⟨Hall.out, .inr ⟨Hnt.out, .inr ⟨hl2.out, at', Hat.out, .inr ⟨Hrow.out, .inl ⟨rfl, hng.out, rfl, rfl, rfl, rfl⟩⟩⟩⟩⟩⟩⟩
                                have hP := Kp.mk (HA9.out.put (.slice none 0 0) (.int .i64 0) (.int .i64 0) (.int .u64 0))
                                go_upto_region 25 with (fail)
                                repeat go_step
                                refine bodyPost_ret (results_ct rfl _ _ (w.heap.size + 1 + 1) _ _ _ _ rfl hP.out.1 Try.underlying27 rfl (by kernel_rfl)) rfl ?_
                                exact ⟨10, [], 0, 0, 0, _, rfl, hv.out, Kd.R_nil _ _ _ _ _, hP.out.2⟩
                              | true =>
                                have hgd : Kp (GoodAt rs nx lg sq add drop enx elg esq at') := ⟨⟨Hb1.out, Hb2.out, Hsm.out, by rw [HL.out, Hos.out]; exact Hb9.out.1 rfl⟩⟩
                                have hv : Kp (ApplyR rs nx lg sq add drop enx elg esq 0 L (laterI nx enx) (laterI lg elg) sq) := ⟨.inr ⟨HVE.out, .inr ⟨Hall.out, .inr ⟨Hnt.out, .inr ⟨hl2.out, at', Hat.out, .inr ⟨Hrow.out, .inr ⟨rfl, hgd.out, HL.out.symm, rfl, rfl, Hos.out.symm⟩⟩⟩⟩⟩⟩⟩
                                have z0 := cells_top HA9.out.z 0 _ rfl
                                have z1 := cells_top HA9.out.z 1 _ rfl
                                have z2 := cells_top HA9.out.z 2 _ rfl
                                have z3 := cells_top HA9.out.z 3 _ rfl
                                have zf0 := free_top HA9.out.z 0
                                have zf1 := free_top HA9.out.z 1
                                have zf2 := free_top HA9.out.z 2
                                have zf3 := free_top HA9.out.z 3
                                have y0 := cells_top HG9.out 0 _ rfl
                                have y1 := cells_top HG9.out 1 _ rfl
                                have y2 := cells_top HG9.out 2 _ rfl
                                have y3 := cells_top HG9.out 3 _ rfl
                                have hP := Kp.mk (HA9.out.put (.slice A9 L.length c9) (.int .i64 (laterI nx enx)) (.int .i64 (laterI lg elg)) (.int .u64 sq))
                                have hRf := Kp.mk (put_R HR9.out HA9.out.z (.slice A9 L.length c9) (.int .i64 (laterI nx enx)) (.int .i64 (laterI lg elg)) (.int .u64 sq))
                                go_upto_region 26 with (fail)
                                repeat go_step
                                refine bodyPost_ret (results_ct rfl _ _ (w.heap.size + 1 + 1) _ _ _ _ rfl hP.out.1 Try.underlying27 rfl (by kernel_rfl)) rfl ?_
                                exact ⟨0, L, _, _, _, _, rfl, hv.out, hRf.out, hP.out.2⟩
                            · exact absurd (Int.le_refl sq) hsm
end Go.Proofs.Ytgfkpddmjcgceaa.Kx
