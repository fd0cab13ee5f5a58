import Derived.Test.YtgeklapphkgdkaaDsRc
set_option linter.unusedVariables false
set_option linter.unusedSimpArgs false
namespace Go.Proofs.Ytgeklapphkgdkaa.Dsk
open Go.RowKit Go.Maps

/-! ### The reference's disk: where a name stands -/
def posA (nm : List UInt8) : AF → Nat
  | [] => 0
  | y :: r => if bytesBefore y.1 nm then posA nm r + 1 else 0
theorem posA_le (nm : List UInt8) : ∀ fs : AF, posA nm fs ≤ fs.length
  | [] => Nat.le_refl _
  | y :: r => by
    unfold posA
    have := posA_le nm r
    split <;> simp <;> omega
def afD : List UInt8 × List Int × Nat := ([], [], 0)
theorem posA_before (nm : List UInt8) : ∀ (fs : AF) (j : Nat), j < posA nm fs → bytesBefore (fs.getD j afD).1 nm = true
  | [], j, h => by simp [posA] at h
  | y :: r, j, h => by
    unfold posA at h
    split at h
    · rename_i hb
      cases j with
      | zero => simpa using hb
      | succ j => simpa using posA_before nm r j (by omega)
    · omega
theorem posA_at (nm : List UInt8) : ∀ (fs : AF), posA nm fs < fs.length → bytesBefore (fs.getD (posA nm fs) afD).1 nm = false
  | [], h => by simp at h
  | y :: r, h => by
    unfold posA at h ⊢
    split at h
    · rename_i hb
      rw [if_pos hb]
      simpa using posA_at nm r (by simpa using h)
    · rename_i hb
      rw [if_neg hb]
      simpa using hb
/-- A file's cells in the row. -/
theorem RD.cells {w : World} {B g : Nat} {σ : DS} {S : Nat → Prop} {room : Int} {Av : Option Addr} {nv cv : Nat} {A : Option Addr} {c : Nat} {ps : List PF} (h : RD w B g σ S room (.slice Av nv cv) A c ps) :
    nv = ps.length ∧ nv ≤ cv ∧ (0 < nv → ∃ q, Av = some ⟨q, 0, none⟩ ∧ S q ∧ q ≠ g ∧ B ≤ q ∧ ∀ j, j < nv → ∃ (nm : ByteArray) (A' : Option Addr) (n c' : Nat), w.cell? ⟨q, j * 3, none⟩ = some (.string nm) ∧ w.cell? ⟨q, j * 3 + 1, none⟩ = some (.slice A' n c') ∧ w.cell? ⟨q, j * 3 + 2, none⟩ = some (.int .i64 ((σ.files.getD j afD).2.2 : Nat)) ∧
      nm.data.toList = (σ.files.getD j afD).1 ∧ Rd w .u8 A' n c' (σ.files.getD j afD).2.1 ∧ n ≤ c' ∧ n ≤ 16777216 ∧ (σ.files.getD j afD).2.2 ≤ n ∧ nm.size ≤ 100000) := by
  obtain ⟨h1, h2, h3, h4⟩ := own_row3 h.own h.file
  refine ⟨h1, h2, fun hp => ?_⟩
  obtain ⟨q, rfl, hc⟩ := h3 hp
  have hq := h.vS q rfl
  refine ⟨q, rfl, hq.1, hq.2, ?_, fun j hj => ?_⟩
  · rcases h.own.2 with ⟨e1, _⟩ | ⟨q2, cap, cur, e1, hB, _⟩
    · cases e1
    · injection e1 with e1 _ _
      injection e1 with e1
      injection e1 with e1 _ _
      omega
  · have hjp : j < ps.length := by omega
    have hmem : ps.getD j (#[], ([], [], 0)) ∈ ps := by simp [List.getD, hjp]
    have hab : (ps.getD j (#[], ([], [], 0))).2 = σ.files.getD j afD := by
      rw [← h.abs]
      simp [List.getD, hjp]
    obtain ⟨nm, A', n, c', e, g1, g2, g3, g4, g5, g6⟩ := (h.file _ hmem).out
    rw [hab] at e g1 g2 g5
    have hg := fun i hi => flat3_get h.file hjp (j := i) hi
    rw [e] at hg
    have z0 := hc (j * 3 + 0) _ ((hg 0 (by omega)).trans rfl)
    have z1 := hc (j * 3 + 1) _ ((hg 1 (by omega)).trans rfl)
    have z2 := hc (j * 3 + 2) _ ((hg 2 (by omega)).trans rfl)
    exact ⟨nm, A', n, c', z0, z1, z2, g1, g2, g3, g4, g5, g6⟩
theorem less_before : ∀ (x y : List UInt8), Op.bytesLess x y = bytesBefore x y
  | [], [] => rfl
  | [], _ :: _ => rfl
  | _ :: _, [] => rfl
  | a :: r, b :: s => by
    have ih := less_before r s
    unfold Op.bytesLess bytesBefore
    rw [ih]
theorem less_str (a b : ByteArray) : Op.bytesLess a.toList b.toList = bytesBefore a.data.toList b.data.toList := by
  rw [less_before, ByteArray.toList_eq, ByteArray.toList_eq]
theorem ret_ib {a b : Int} {c d : Bool} (h : a = b) (k : c = d) : Ending.returned (.tuple #[.int .i64 a, .bool c]) = .returned (.tuple #[.int .i64 b, .bool d]) := by rw [h, k]
theorem ret_ii {a b c d : Int} (h : a = b) (k : c = d) : Ending.returned (.tuple #[.int .i64 a, .int .i64 c]) = .returned (.tuple #[.int .i64 b, .int .i64 d]) := by rw [h, k]
def hasA (nm : List UInt8) (fs : AF) : Bool := decide (posA nm fs < fs.length) && ((fs.getD (posA nm fs) afD).1 == nm)
set_option maxHeartbeats 2000000 in
set_option maxRecDepth 100000 in
theorem r_at {w : World} {B g : Nat} {σ : DS} {S : Nat → Prop} {room : Int} {v : Value} {A : Option Addr} {c : Nat} {ps : List PF} (h : RD w B g σ S room v A c ps) (nm : ByteArray) (hs : nm.size ≤ 100000) :
    Calls Try.prog 53 #[.pointer (some ⟨g, 0, none⟩), .string nm] w fun e w' => e = .returned (.tuple #[.int .i64 (posA nm.data.toList σ.files : Nat), .bool (hasA nm.data.toList σ.files)]) ∧ Below w.heap.size w w' := by
  obtain ⟨Av, nv, cv, rfl⟩ : ∃ Av nv cv, v = .slice Av nv cv := by
    rcases h.own.2 with ⟨e1, _⟩ | ⟨q, cap, cur, e1, _⟩
    · exact ⟨none, 0, 0, e1⟩
    · exact ⟨_, _, _, e1⟩
  obtain ⟨hnv, hcv, hcells⟩ := h.cells
  have hlen : σ.files.length = nv := by rw [hnv, ← h.abs, List.length_map]
  have hmost := h.most
  have c1 := cells_top h.top 1 (.slice Av nv cv) rfl
  have H := Kp.mk h
  obtain ⟨p, hp⟩ : ∃ p, p = posA nm.data.toList σ.files := ⟨_, rfl⟩
  have hple : p ≤ nv := by rw [hp, ← hlen]; exact posA_le _ _
  have HC := Kp.mk hcells
  have HL := Kp.mk hlen
  have HNV := Kp.mk hnv
  have HP := Kp.mk hp
  have hnv1 : nv ≤ 1000 := by omega
  clear h hcells hlen hnv hp hmost
  go_enter Try.func53, Try.ntmps53
  go_wp2_with fail
  go_loopw [6] (fun i wr => ∃ j : Nat, i = .int .i64 (j : Nat) ∧ j ≤ p ∧ wr = w) (fun i _ => p + 1 - (intOf i).toNat)
  case atStart => exact ⟨0, rfl, Nat.zero_le _, rfl⟩
  case round =>
    obtain ⟨j, rfl, hj, rfl⟩ := hrel
    by_cases hjn : j < nv
    · obtain ⟨q, rfl, _, _, _, hcj⟩ := HC.out (by omega)
      obtain ⟨nj, Aj, lj, cj, z0, _, _, hnj, _⟩ := hcj j hjn
      have hjn' : ¬ nv ≤ j := by omega
      by_cases hjp : j < p
      · have hls : Op.bytesLess nj.toList nm.toList = true := by
          rw [less_str, hnj]
          exact posA_before _ _ _ (by rw [← HP.out]; exact hjp)
        clear hcj hnj
        go_wp2_with fail
        go_roundw
        case rel => exact ⟨j + 1, by go_num, by omega, trivial⟩
        case measure => simp [intOf]; omega
      · obtain rfl : p = j := by omega
        have hls : Op.bytesLess nj.toList nm.toList = false := by
          rw [less_str, hnj, HP.out]
          exact posA_at _ _ (by rw [← HP.out, HL.out]; exact hjn)
        have hh : hasA nm.data.toList σ.files = (nj.toList == nm.toList) := by
          unfold hasA
          rw [← HP.out, HL.out, decide_eq_true hjn, Bool.true_and, ← hnj, ByteArray.toList_eq, ByteArray.toList_eq]
        have HH := Kp.mk hh
        have b1 := blw_cell c1
        have bz := blw_cell z0
        clear hcj hnj hh
        go_wp2_with fail
        refine wp_region_below (by kernel_rfl) (by kernel_rfl) ?_
        repeat (first | go_big_quiet_step (fail) | quiet_step (fail))
        refine wpQuiet_nil ?_
        rintro _ ⟨pz, rfl⟩
        go_wp2_with fail
        go_ret2
        exact ⟨ret_ib (by rw [← HP.out]) HH.out.symm, pz.h⟩
    · obtain rfl : nv = j := by omega
      obtain rfl : p = nv := by omega
      have hh : hasA nm.data.toList σ.files = false := by
        unfold hasA
        rw [← HP.out, HL.out, decide_eq_false (by omega), Bool.false_and]
      have HH := Kp.mk hh
      have b1 := blw_cell c1
      clear hh
      go_wp2_with fail
      refine wp_region_below (by kernel_rfl) (by kernel_rfl) ?_
      repeat (first | go_big_quiet_step (fail) | quiet_step (fail))
      refine wpQuiet_nil ?_
      rintro _ ⟨pz, rfl⟩
      go_wp2_with fail
      go_ret2
      exact ⟨ret_ib (by rw [← HP.out]) HH.out.symm, pz.h⟩
end Go.Proofs.Ytgeklapphkgdkaa.Dsk
