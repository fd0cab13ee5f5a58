import Derived.Test.YtpgkpigpehehmaaSymK
import Derived.Test.YtpgkpigpehehmaaMrgM
set_option linter.unusedVariables false
set_option linter.unusedSimpArgs false
namespace Go.Proofs.Ytpgkpigpehehmaa.Bas
open Go.RowKit Go.Maps Go.Sort Go.Shelf Go.Lib

def eqK (x y : En) : Bool := decide (keyCmp x.k y.k = 0)
/-- b is a, sorted by key, and entries of one key keep their order. -/
def StR (a b : List En) : Prop := b.Perm a ∧ b.Pairwise (fun x y => keyCmp x.k y.k ≤ 0) ∧ ∀ x ∈ a, b.filter (eqK x) = a.filter (eqK x)
theorem StR_nil : StR [] [] := ⟨List.Perm.refl _, List.Pairwise.nil, fun x hx => by cases hx⟩
theorem seg_all {α : Type} [Inhabited α] (d : Array α) : seg (get d) 0 d.size = d.toList := by
  apply List.ext_getElem
  · simp [seg]
  · intro i h1 h2
    rw [seg_get]
    have hi : i < d.size := by simpa using h2
    unfold get
    rw [Nat.zero_add, getElem!_pos d i hi]
    simp
theorem eqv_key {w0 : World} (x y : Cell4 w0) : eqv (ltOf cfC) x y = eqK x.1.2 y.1.2 := by
  have ha : cfC y x = - cfC x y := keyCmp_anti _ _
  have hc : cfC x y = keyCmp x.1.2.k y.1.2.k := rfl
  unfold eqv eqK ltOf
  rw [ha, ← hc]
  by_cases h : cfC x y = 0
  · simp [h]
  · rw [decide_eq_false h]
    by_cases h2 : cfC x y < 0
    · simp [h2]
    · have h3 : - cfC x y < 0 := by omega
      simp [h2, h3]; omega
theorem sorts_any (w0 : World) (n : Nat) (hn : n ≤ 1000000) : SortsAt w0 StR n := by
  intro W blk cap d hB hBk hH hblk hd
  have Hs := Kp.mk (stable_any (cap := cap) hB hBk hH hblk hd hn)
  have Hd := Kp.mk hd
  clear hB hBk hH hblk hd
  go_enter Try.func18, Try.ntmps18
  go_wp2_with fail
  refine Hs.out.mono ?_
  rintro e w1 ⟨rfl, d', hz, S, hso, hsa⟩
  have HR : Kp (StR (d.toList.map (fun x : Cell4 w0 => x.1.2)) (d'.toList.map (fun x : Cell4 w0 => x.1.2))) := ⟨by
    have e1 : seg (get d') 0 n = d'.toList := by rw [← hz]; exact seg_all d'
    have e2 : seg (get d) 0 n = d.toList := by rw [← Hd.out]; exact seg_all d
    refine ⟨?_, ?_, fun x hx => ?_⟩
    · have := hsa.1
      rw [e1, e2] at this
      exact this.map _
    · rw [List.pairwise_map, ← e1]
      refine (srt_pairwise.1 hso).imp (fun {a b} h => ?_)
      have h1 := of_decide_eq_false h
      have h2 : cfC b a = - cfC a b := keyCmp_anti _ _
      show cfC a b ≤ 0
      omega
    · obtain ⟨c, _, rfl⟩ := List.mem_map.1 hx
      have h := hsa.2 c
      rw [e1, e2] at h
      have hp : (fun y : Cell4 w0 => eqv (ltOf cfC) c y) = fun y : Cell4 w0 => eqK c.1.2 y.1.2 := funext (fun y => eqv_key c y)
      rw [show eqv (ltOf cfC) c = fun y : Cell4 w0 => eqK c.1.2 y.1.2 from hp] at h
      rw [List.filter_map, List.filter_map]
      exact congrArg (List.map (fun x : Cell4 w0 => x.1.2)) h⟩
  have HS := Kp.mk S
  have HZ := Kp.mk hz
  clear S hz hso hsa
  go_wp2
  go_end0
  obtain ⟨m, os, hw⟩ := HS.out
  exact ⟨rfl, m, os, d', hw, HZ.out, HR.out⟩
end Go.Proofs.Ytpgkpigpehehmaa.Bas
