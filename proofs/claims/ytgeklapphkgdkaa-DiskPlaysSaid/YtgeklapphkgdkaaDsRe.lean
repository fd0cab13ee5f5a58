import Derived.Test.YtgeklapphkgdkaaDsRd
import Derived.Test.YtgeklapphkgdkaaDskV
set_option linter.unusedVariables false
set_option linter.unusedSimpArgs false
namespace Go.Proofs.Ytgeklapphkgdkaa.Dsk
open Go.RowKit Go.Maps

/-! ### The reference's disk: Used, found, Size -/
theorem before_irrefl : ∀ (a : List UInt8), bytesBefore a a = false
  | [] => rfl
  | x :: r => by
    have ih := before_irrefl r
    simp [bytesBefore, ih]
theorem look_has (nm : List UInt8) : ∀ {fs : AF}, Srt fs → lookA nm fs = if hasA nm fs then some (fs.getD (posA nm fs) afD).2 else none
  | [], _ => by simp [lookA, hasA, posA]
  | y :: r, h => by
    have hs := List.pairwise_cons.1 h
    by_cases hb : bytesBefore y.1 nm = true
    · have hne : y.1 ≠ nm := fun e => by rw [e, before_irrefl] at hb; cases hb
      have ih := look_has nm (fs := r) hs.2
      have hp : posA nm (y :: r) = posA nm r + 1 := by show (if _ then _ else _) = _; rw [if_pos hb]
      have hh : hasA nm (y :: r) = hasA nm r := by
        unfold hasA
        rw [hp]
        simp
      show (if y.1 = nm then _ else _) = _
      rw [if_neg hne, ih, hh, hp]
      simp
    · have hp : posA nm (y :: r) = 0 := by show (if _ then _ else _) = _; rw [if_neg hb]
      have hh : hasA nm (y :: r) = (y.1 == nm) := by
        unfold hasA
        rw [hp]
        simp
      show (if y.1 = nm then _ else _) = _
      rw [hh, hp]
      by_cases he : y.1 = nm
      · rw [if_pos he]
        simp [he]
      · rw [if_neg he]
        have hn : lookA nm r = none := (look_none_iff nm r).2 (fun x hx hxe => hb (by rw [← hxe]; exact hs.1 x hx))
        simp [he, hn]
theorem used_take : ∀ (fs : AF) (j : Nat), j < fs.length → used (fs.take (j + 1)) = used (fs.take j) + ((fs.getD j afD).2.1.length : Int)
  | [], j, h => by simp at h
  | y :: r, 0, _ => by simp [used]
  | y :: r, j + 1, h => by
    have ih := used_take r j (by simpa using h)
    simp only [List.take_succ_cons, used, List.getD_cons_succ]
    omega
theorem RD.small {w : World} {B g : Nat} {σ : DS} {S : Nat → Prop} {room : Int} {v : Value} {A : Option Addr} {c : Nat} {ps : List PF} (h : RD w B g σ S room v A c ps) : ∀ x ∈ σ.files, x.2.1.length ≤ 16777216 := by
  rw [← h.abs]
  intro x hx
  obtain ⟨p, hp, rfl⟩ := List.mem_map.1 hx
  obtain ⟨nm, A', n, c', _, _, hr, _, hn, _⟩ := (h.file p hp).out
  rw [hr.len]
  exact hn
theorem RD.slice {w : World} {B g : Nat} {σ : DS} {S : Nat → Prop} {room : Int} {v : Value} {A : Option Addr} {c : Nat} {ps : List PF} (h : RD w B g σ S room v A c ps) : ∃ Av nv cv, v = .slice Av nv cv := by
  rcases h.own.2 with ⟨e1, _⟩ | ⟨q, cap, cur, e1, _⟩
  · exact ⟨none, 0, 0, e1⟩
  · exact ⟨_, _, _, e1⟩
set_option maxHeartbeats 2000000 in
set_option maxRecDepth 100000 in
theorem r_used {w : World} {B g : Nat} {σ : DS} {S : Nat → Prop} {room : Int} {v : Value} {A : Option Addr} {c : Nat} {ps : List PF} (h : RD w B g σ S room v A c ps) :
    Calls Try.prog 44 #[.pointer (some ⟨g, 0, none⟩)] w fun e w' => e = .returned (.int .i64 (used σ.files)) ∧ w' = w := by
  obtain ⟨Av, nv, cv, rfl⟩ := h.slice
  obtain ⟨hnv, hcv, hcells⟩ := h.cells
  have hlen : σ.files.length = nv := by rw [hnv, ← h.abs, List.length_map]
  have hnv1 : nv ≤ 1000 := by have := h.most; omega
  have c1 := cells_top h.top 1 (.slice Av nv cv) rfl
  have hsm := h.small
  have HC := Kp.mk hcells
  have HL := Kp.mk hlen
  have HSm := Kp.mk hsm
  clear h hcells hlen hnv hsm
  go_enter Try.func44, Try.ntmps44
  go_wp2_with fail
  go_loopw [4, 3] (fun i s wr => ∃ (j : Nat) (t : Int), i = .int .i64 (j : Nat) ∧ s = .int .i64 t ∧ j ≤ nv ∧ Kp (t = used (σ.files.take j)) ∧ 0 ≤ t ∧ t ≤ (j : Int) * 16777216 ∧ wr = w) (fun i _ _ => nv - (intOf i).toNat)
  case atStart => exact ⟨0, 0, rfl, rfl, Nat.zero_le _, ⟨by simp [used]⟩, by omega, by omega, rfl⟩
  case round =>
    obtain ⟨j, t, rfl, rfl, hj, HT, ht0, ht1, rfl⟩ := hrel
    by_cases hjn : j < nv
    · obtain ⟨q, rfl, _, _, _, hcj⟩ := HC.out (by omega)
      obtain ⟨nj, Aj, lj, cj, _, z1, _, _, hr, _, hl16, _⟩ := hcj j hjn
      have hjn' : ¬ nv ≤ j := by omega
      have hlj := hr.len
      have hw : IntKind.i64.wrap (t + (lj : Int)) = t + (lj : Int) := IntWalk.i64_in _ (by omega)
      have HT2 : Kp (t + (lj : Int) = used (σ.files.take (j + 1))) := ⟨by rw [used_take _ j (by have := HL.out; omega), ← HT.out, hlj]⟩
      have hq2 : t + (lj : Int) ≤ ((j + 1 : Nat) : Int) * 16777216 := by omega
      have hq1 : 0 ≤ t + (lj : Int) := by omega
      clear hcj hr hlj HT
      go_wp2_with fail
      go_roundw
      case rel => exact ⟨j + 1, t + (lj : Int), by go_num, rfl, by omega, HT2, hq1, hq2, trivial⟩
      case measure => simp [intOf]; omega
    · obtain rfl : nv = j := by omega
      have HT2 : Kp (t = used σ.files) := ⟨by rw [HT.out, ← HL.out, List.take_length]⟩
      go_wp2_with fail
      go_ret
      exact ⟨ret_int HT2.out, rfl⟩
/-- The reference's number of a call on a file. -/
def foundR (σ : DS) (nm : ByteArray) : Int := if σ.down.1 then 11 else if nameOk nm then (if hasA nm.data.toList σ.files then 0 else 8) else 6
def FoundP (B g : Nat) (σ : DS) (S : Nat → Prop) (room : Int) (v : Value) (ps : List PF) (nm : ByteArray) (w : World) (e : Ending) (w' : World) : Prop :=
  ∃ i : Nat, e = .returned (.tuple #[.int .i64 (i : Nat), .int .i64 (foundR σ nm)]) ∧ (foundR σ nm = 0 → i = posA nm.data.toList σ.files ∧ hasA nm.data.toList σ.files = true) ∧ Fr w w' (fun k => k = g) ∧ ∃ A' c', RD w' B g σ.down.2 S room v A' c' ps
set_option maxHeartbeats 2000000 in
set_option maxRecDepth 100000 in
theorem r_found {w : World} {B g : Nat} {σ : DS} {S : Nat → Prop} {room : Int} {v : Value} {A : Option Addr} {c : Nat} {ps : List PF} (h : RD w B g σ S room v A c ps) (nm : ByteArray) (hs : nm.size ≤ 100000) :
    Calls Try.prog 54 #[.pointer (some ⟨g, 0, none⟩), .string nm] w (FoundP B g σ S room v ps nm w) := by
  have HD := Kp.mk (r_down h)
  obtain ⟨dn, hdn⟩ : ∃ dn, dn = σ.down.1 := ⟨_, rfl⟩
  obtain ⟨ok, hok⟩ : ∃ ok, ok = nameOk nm := ⟨_, rfl⟩
  obtain ⟨hs1, hhs⟩ : ∃ b, b = hasA nm.data.toList σ.files := ⟨_, rfl⟩
  have HR : Kp (foundR σ nm = if dn then 11 else if ok then (if hs1 then 0 else 8) else 6) := ⟨by unfold foundR; rw [hdn, hok, hhs]⟩
  have HDN := Kp.mk hdn
  have HOK := Kp.mk hok
  have HHS := Kp.mk hhs
  have hdf := (down_files σ).1
  have HDF := Kp.mk hdf
  clear h hdn hok hhs hdf
  go_enter Try.func54, Try.ntmps54
  go_wp2_with fail
  refine HD.out.mono ?_
  rintro e w1 ⟨rfl, hf1, A1, c1, hr1⟩
  rw [← HDN.out]
  have HF1 := Kp.mk hf1
  have HR1 := Kp.mk hr1
  clear hf1 hr1 HD
  cases dn
  · have HNm := Kp.mk (named_any nm hs w1)
    rw [← HOK.out] at HNm
    go_wp2_with fail
    refine HNm.out.mono ?_
    rintro e w2 ⟨rfl, hb2⟩
    have HF2 := Kp.mk (HF1.out.below hb2)
    have HR2 := Kp.mk (HR1.out.below hb2)
    clear hb2 HNm
    cases ok
    · go_wp2_with fail
      go_ret2
      exact ⟨0, ret_ii rfl (by rw [HR.out]; rfl), (fun e => by rw [HR.out] at e; cases e), HF2.out, A1, c1, HR2.out⟩
    · have HAt := Kp.mk (r_at HR2.out nm hs)
      rw [HDF.out, ← HHS.out] at HAt
      go_wp2_with fail
      refine HAt.out.mono ?_
      rintro e w3 ⟨rfl, hb3⟩
      have HF3 := Kp.mk (HF2.out.below hb3)
      have HR3 := Kp.mk (HR2.out.below hb3)
      clear hb3 HAt
      cases hs1
      · go_wp2_with fail
        go_ret2
        exact ⟨0, ret_ii rfl (by rw [HR.out]; rfl), (fun e => by rw [HR.out] at e; cases e), HF3.out, A1, c1, HR3.out⟩
      · go_wp2_with fail
        go_ret2
        exact ⟨_, ret_ii rfl (by rw [HR.out]; rfl), (fun _ => ⟨rfl, HHS.out.symm⟩), HF3.out, A1, c1, HR3.out⟩
  · go_wp2_with fail
    go_ret2
    exact ⟨0, ret_ii rfl (by rw [HR.out]; rfl), (fun e => by rw [HR.out] at e; cases e), HF1.out, A1, c1, HR1.out⟩
end Go.Proofs.Ytgeklapphkgdkaa.Dsk
