import Derived.Test.YtgfkpddmjcgceaaVrR
set_option linter.unusedVariables false
set_option linter.unusedSimpArgs false
namespace Go.Proofs.Ytgfkpddmjcgceaa.Kx
open Go.RowKit Go.Maps Go.Proofs.YtgfkpddmjcgceaaW.PrintWords

/-- Runs k, k - 1, .., 1. -/
def upR (k : Nat) : List Rn := (List.range k).map fun j => rnOf ((k - j : Nat) : Int) ((k - j : Nat) : Int)
theorem upR_len (k : Nat) : (upR k).length = k := by simp [upR]
theorem upR_get (k j : Nat) (h : j < k) : (upR k).getD j zRn = rnOf ((k - j : Nat) : Int) ((k - j : Nat) : Int) := by simp [upR, List.getD, h]
theorem upR_succ (k : Nat) : rnOf ((k + 1 : Nat) : Int) ((k + 1 : Nat) : Int) :: upR k = upR (k + 1) := by
  unfold upR
  rw [List.range_succ_eq_map, List.map_cons, List.map_map]
  refine congr (congrArg _ (by simp)) (List.map_congr_left (fun j _ => ?_))
  simp [Function.comp]
theorem once_ne {xs : List Int} (h : ∀ i j, j < i → i < xs.length → xs.getD i 0 ≠ xs.getD j 0) : OnceP xs := by
  intro i hi hm
  obtain ⟨j, hj, e⟩ := mem_getD (z := 0) hm
  rw [List.length_take] at hj
  have hji : j < i := by omega
  refine h i j hji hi ?_
  rw [← e]
  simp [List.getD, List.getElem?_take, hji]
theorem rnOf_ok {f s : Int} (h1 : 1 ≤ f) (h2 : f ≤ 1099511627776) (h3 : 1 ≤ s) (h4 : s ≤ 72057594037927935) : rnOk (rnOf f s) :=
  ⟨h1, h2, (by decide : (1 : Int) ≤ 10), (by decide : (1 : Int) ≤ 1), (by decide : (10 : Int) ≤ 16777216), (by decide : (1 : Int) ≤ 16777216), (by decide : 1 ≤ [(97 : Int)].length), (by decide : 1 ≤ [(98 : Int)].length), (by decide : [(97 : Int)].length ≤ 256), (by decide : [(98 : Int)].length ≤ 256), (by decide : cmpI [97] [98] ≤ 0), h3, h4⟩
/-- A list of runs, told place by place, is right. -/
theorem vok_of {l : List Rn} {F S : Nat → Int} {nx lg sq : Int} (hl : l.length ≤ 1000) (hn : 1 ≤ nx) (hn2 : nx ≤ 1099511627776) (hlg : 0 ≤ lg) (hlg2 : lg ≤ 1099511627776) (hsq : sq ≤ 72057594037927935)
    (hg : ∀ j, j < l.length → l.getD j zRn = rnOf (F j) (S j)) (hF : ∀ i j, j < i → i < l.length → F i ≠ F j) (hF1 : ∀ j, j < l.length → 1 ≤ F j ∧ F j < nx) (hS1 : ∀ j, j < l.length → 1 ≤ S j) (h0 : 0 < l.length → S 0 ≤ sq) (hS : ∀ j, j + 1 < l.length → S (j + 1) < S j) : VOk l nx lg sq := by
  have hle : ∀ j, j < l.length → S j ≤ sq := by
    intro j
    induction j with
    | zero => exact fun h => h0 h
    | succ j ih => intro h; have := ih (by omega); have := hS j h; omega
  refine ⟨⟨hl, hn, hn2, hlg, hlg2, hsq⟩, once_ne (fun i j hji hi => ?_), fun i hi => ?_⟩
  · rw [List.length_map] at hi
    rw [map_getD_file l i hi, map_getD_file l j (by omega), hg i hi, hg j (by omega)]
    exact hF i j hji hi
  · rw [rowOk, hg i hi]
    have h1 := hF1 i hi
    refine ⟨rnOf_ok h1.1 (by omega) (hS1 i hi) (by have := hle i hi; omega), h1.2, ?_⟩
    cases i with
    | zero => exact h0 hi
    | succ i =>
      show S (i + 1) ≤ (l.getD i zRn).seq - 1
      rw [hg i (by omega)]
      have := hS i hi
      show S (i + 1) ≤ S i - 1
      omega
theorem upR_vok (k : Nat) (nx : Int) (hk : k ≤ 100) (hn : (k : Int) < nx) (hn2 : nx ≤ 1000) : VOk (upR k) nx 0 k :=
  vok_of (F := fun j => ((k - j : Nat) : Int)) (S := fun j => ((k - j : Nat) : Int)) (by rw [upR_len]; omega) (by omega) (by omega) (by omega) (by omega) (by omega) (fun j hj => upR_get k j (by rwa [upR_len] at hj))
    (fun i j hji hi => by rw [upR_len] at hi; (try dsimp only); omega) (fun j hj => by rw [upR_len] at hj; (try dsimp only); omega) (fun j hj => by rw [upR_len] at hj; (try dsimp only); omega) (fun h => by simp) (fun j hj => by rw [upR_len] at hj; (try dsimp only); omega)
theorem upR_in (k : Nat) (f : Int) : inF (upR k) f ↔ 1 ≤ f ∧ f ≤ k := by
  constructor
  · rintro ⟨j, hj, e⟩
    rw [upR_len] at hj
    rw [upR_get k j hj] at e
    have e2 : ((k - j : Nat) : Int) = f := e
    omega
  · rintro ⟨h1, h2⟩
    refine ⟨k - f.toNat, by rw [upR_len]; omega, ?_⟩
    rw [upR_get k _ (by omega)]
    show ((k - (k - f.toNat) : Nat) : Int) = f
    omega
theorem eok_one {f s : Int} {drop : List Int} {enx esq : Int} (h1 : 1 ≤ f) (h2 : f ≤ 1099511627776) (h3 : 1 ≤ s) (h4 : s ≤ 72057594037927935) (hd : drop.length ≤ 100) (hx : 0 ≤ enx) (hx2 : enx ≤ 1099511627776) (hs : esq ≤ 72057594037927935) (ho : OnceP drop) (hr : ∀ i, i < drop.length → 1 ≤ drop.getD i 0 ∧ drop.getD i 0 ≤ 1099511627776) : EOk [rnOf f s] drop enx 0 esq := by
  refine ⟨⟨by simp, hd, hx, hx2, by omega, by omega, hs⟩, ?_, ?_, ho, hr⟩
  · exact once_ne (fun i j hji hi => by simp at hi; omega)
  · intro i hi
    have : i = 0 := by simp at hi; omega
    subst this
    exact rnOf_ok h1 h2 h3 h4
/-- One step up. -/
theorem step_x (k : Nat) (hk : k ≤ 40) : applyX (upR k) (k + 1) 0 k [rnOf (k + 1) (k + 1)] [] (k + 2) 0 (k + 1) 0 = 0 ∧ outL (upR k) [rnOf (k + 1) (k + 1)] [] 0 = upR (k + 1) := by
  have hout : outL (upR k) [rnOf (k + 1) (k + 1)] [] 0 = upR (k + 1) := by
    have := upR_succ k
    simpa [outL] using this
  refine ⟨?_, hout⟩
  unfold applyX
  rw [if_pos ⟨upR_vok k _ (by omega) (by omega) (by omega), eok_one (by omega) (by omega) (by omega) (by omega) (by simp) (by omega) (by omega) (by omega) (fun i hi => by simp at hi) (fun i hi => by simp at hi)⟩,
    if_pos (show allIn (upR k) [] from fun i hi => by simp at hi), if_neg (?_ : ¬ twice _ _ _), if_neg (by rw [upR_len]; simp; omega), if_pos (show RowAt (upR k) [] 0 from ⟨by simp, fun i h1 h2 => by simp at h2⟩), if_pos (?_ : GoodAt _ _ _ _ _ _ _ _ _ _)]
  · refine ⟨?_, ?_, ?_, ?_⟩
    · unfold laterB; simp
    · unfold laterB; simp
    · unfold outS; split <;> omega
    · rw [hout]
      have e1 : laterI (k + 1 : Int) (k + 2) = k + 2 := by unfold laterI; rw [if_neg (by omega)]
      have e2 : laterI (0 : Int) 0 = 0 := rfl
      have e3 : outS (k : Int) (k + 1) = ((k + 1 : Nat) : Int) := by unfold outS; rw [if_pos (by omega)]; omega
      rw [e1, e2, e3]
      exact upR_vok (k + 1) _ (by omega) (by omega) (by omega)
  · rintro ⟨i, hi, h1, h2⟩
    have : i = 0 := by simp at hi; omega
    subst this
    have := (upR_in k _).1 h1
    have e : (([rnOf (k + 1 : Int) (k + 1)] : List Rn).getD 0 zRn).file = k + 1 := rfl
    rw [e] at this
    omega
theorem at_nil (rs : List Rn) : IsAt rs [] 0 := .inl ⟨rfl, fun j _ => by simp⟩
end Go.Proofs.Ytgfkpddmjcgceaa.Kx
