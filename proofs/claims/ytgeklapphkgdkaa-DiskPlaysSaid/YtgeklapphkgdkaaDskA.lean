import Derived.Test.YtgeklapphkgdkaaProg
import Derived.WalkKit
import Derived.Maps.OwnSet
import Derived.Maps.RangeWalk
import Derived.Deep.LoopGhost
import Derived.Deep.QuietTactic
import Derived.BigQuiet
import Derived.KernelRfl
import Derived.Laws.BytesArg
import Derived.Lib.ConvBytes
import Derived.Lib.Hide
set_option linter.unusedVariables false
set_option linter.unusedSimpArgs false
namespace Go.Proofs.Ytgeklapphkgdkaa.Dsk
open Go.RowKit Go.Maps

theorem ret_bool {a b : Bool} (h : a = b) : Ending.returned (.bool a) = .returned (.bool b) := by rw [h]
theorem ret_int {k : IntKind} {a b : Int} (h : a = b) : Ending.returned (.int k a) = .returned (.int k b) := by rw [h]
/-- A fact that the walk does not see. -/
structure Kp (p : Prop) : Prop where mk :: (out : p)

theorem max2_int (k : IntKind) (x y : Int) : Builtin.max2 (.int k x) (.int k y) = pure (.int k (max x y)) := by
  simp only [Builtin.max2]
  congr 2
  rw [Int.max_def]; split <;> split <;> omega
theorem min2_int (k : IntKind) (x y : Int) : Builtin.min2 (.int k x) (.int k y) = pure (.int k (min x y)) := by
  simp only [Builtin.min2]
  congr 2
  rw [Int.min_def]; split <;> split <;> omega
theorem max_two (ats : Array TypeId) (ty : TypeId) (a b : Value) : Builtin.max_ ats ty #[a, b] = (Builtin.max2 a b >>= fun s => pure s) := by simp only [Builtin.max_, List.foldlM_cons, List.foldlM_nil]
theorem min_two (ats : Array TypeId) (ty : TypeId) (a b : Value) : Builtin.min_ ats ty #[a, b] = (Builtin.min2 a b >>= fun s => pure s) := by simp only [Builtin.min_, List.foldlM_cons, List.foldlM_nil]

theorem num_any (x : Int) (w : World) : Calls Try.prog 12 #[.int .i64 x] w fun e w' => e = .returned (.int .i64 x) ∧ w' = w := by
  go_enter Try.func12, Try.ntmps12
  go_wp2
  go_ret
  exact ⟨rfl, rfl⟩

theorem used_any (g : Nat) (x : Int) (w : World) (c2 : w.cell? ⟨g, 2, none⟩ = some (.int .i64 x)) : Calls Try.prog 13 #[.pointer (some ⟨g, 0, none⟩)] w fun e w' => e = .returned (.int .i64 x) ∧ w' = w := by
  go_enter Try.func13, Try.ntmps13
  go_wp2
  go_ret
  exact ⟨rfl, rfl⟩

theorem new_any (room : Int) (w : World) : Calls Try.prog 10 #[.int .i64 room] w fun e w' => e = .returned (.pointer (some ⟨w.heap.size + 1, 0, none⟩)) ∧ w' = (w.alloc (.map #[] 0)).alloc (.cells #[.int .i64 (max 0 room), .map (some w.heap.size), .int .i64 0, .slice none 0 0, .int .i64 0] 59) := by
  have hmm := @run_makeMap Try.prog
  by_cases h : 0 < room
  · go_enter Try.func10, Try.ntmps10
    go_wp2
    go_ret
    exact ⟨rfl, by rw [Int.max_eq_right (by omega)]⟩
  · go_enter Try.func10, Try.ntmps10
    go_wp2
    go_ret
    exact ⟨rfl, by rw [Int.max_eq_left (by omega)]⟩

/-- A byte of a name. -/
def okc (c : Int) : Bool := decide (97 ≤ c ∧ c ≤ 122) || decide (65 ≤ c ∧ c ≤ 90) || decide (48 ≤ c ∧ c ≤ 57) || decide (c = 46) || decide (c = 45)
def bys (s : ByteArray) : List Int := s.data.toList.map fun c => (c.toNat : Int)
/-- What a name is. -/
def nameOk (s : ByteArray) : Bool := decide (1 ≤ s.size) && decide (s.size ≤ 40) && (bys s).all okc

theorem bys_length (s : ByteArray) : (bys s).length = s.size := by simp [bys]
theorem bys_getD (s : ByteArray) (j : Nat) : (bys s).getD j 0 = ((s.data.toList.getD j 0).toNat : Int) := by
  unfold bys
  rw [List.getD_eq_getElem?_getD, List.getElem?_map, List.getD_eq_getElem?_getD]
  cases s.data.toList[j]? <;> rfl
theorem toList_ne {s : ByteArray} (h : ¬ s.size = 0) : s.toList.isEmpty = false := by
  rw [ByteArray.toList_eq]
  cases h1 : s.data.toList with
  | nil => exact absurd (show s.data.size = 0 by rw [← Array.length_toList, h1]; rfl) h
  | cons => rfl
theorem nameOk_start {s : ByteArray} (h0 : ¬ s.size = 0) (h40 : s.size ≤ 40) : nameOk s = ((bys s).drop 0).all okc := by
  have h1 : decide (1 ≤ s.size) = true := by simp; omega
  rw [nameOk, h1]; simp [h40]
theorem below_bytes (w : World) (e : TypeId) (s : ByteArray) : Below w.heap.size w (Lib.bytesWorld w e s) :=
  ⟨rfl, rfl, rfl, by rw [Lib.bytesWorld_size]; omega, fun k hk => Lib.bytesWorld_at_old w e s k hk⟩
theorem all_drop (l : List Int) (j : Nat) (h : j < l.length) : (l.drop j).all okc = (okc (l.getD j 0) && (l.drop (j + 1)).all okc) := by
  rw [List.drop_eq_getElem_cons h, List.all_cons, List.getD_eq_getElem?_getD, List.getElem?_eq_getElem h]; rfl
theorem okc_true {c : Int} (h : (97 ≤ c ∧ c ≤ 122) ∨ (65 ≤ c ∧ c ≤ 90) ∨ (48 ≤ c ∧ c ≤ 57) ∨ c = 46 ∨ c = 45) : okc c = true := by
  unfold okc; simp; omega
theorem okc_false {c : Int} (h : c < 45 ∨ c = 47 ∨ (58 ≤ c ∧ c ≤ 64) ∨ (91 ≤ c ∧ c ≤ 96) ∨ 123 ≤ c) : okc c = false := by
  unfold okc; simp; omega

set_option maxHeartbeats 2000000 in
set_option maxRecDepth 100000 in
theorem right_any (s : ByteArray) (hs : s.size ≤ 100000) (w : World) : Calls Try.prog 48 #[.string s] w fun e w' => e = .returned (.bool (nameOk s)) ∧ Below w.heap.size w w' := by
  by_cases h0 : s.size = 0
  · have e0 : s.toList = [] := by
      have : s.data = #[] := Array.eq_empty_of_size_eq_zero h0
      rw [ByteArray.toList_eq, this]
    go_enter Try.func48, Try.ntmps48
    go_wp2
    go_ret
    exact ⟨by simp [nameOk, h0], Below.refl _ _⟩
  · have e0 : s.toList.isEmpty = false := toList_ne h0
    by_cases h40 : s.size ≤ 40
    · have hcv := fun w => Lib.run_convert_string_bytes (P := Try.prog) w 9 26 5 s Try.underlying9 Try.underlying26 Try.underlying5
      go_enter Try.func48, Try.ntmps48
      go_wp2_with fail
      have HF := Kp.mk (nameOk_start h0 h40)
      have hcell : ∀ j, j < s.size → (Lib.bytesWorld w 5 s).cell? ⟨w.heap.size, j, none⟩ = some (.int .u8 ((bys s).getD j 0)) := fun j hj => by rw [Lib.bytesWorld_cell w 5 s j hj, bys_getD]
      have hb := below_bytes w 5 s
      have Hcell := Kp.mk hcell
      generalize hW : Lib.bytesWorld w 5 s = W at *
      clear hcell hW hcv
      go_loop [15] (fun i => ∃ k : Nat, k ≤ s.size ∧ i = .int .i64 k ∧ Kp (nameOk s = ((bys s).drop k).all okc)) (fun i => s.size - (intOf i).toNat)
      case atStart => exact ⟨0, Nat.zero_le _, rfl, HF⟩
      case round =>
        obtain ⟨k, hk, rfl, Hk⟩ := hrel
        by_cases hlt : k < s.size
        · have hc := Hcell.out k hlt
          have Hs := Kp.mk (all_drop (bys s) k (by rw [bys_length]; exact hlt))
          obtain ⟨c, hcd⟩ : ∃ c, (bys s).getD k 0 = c := ⟨_, rfl⟩
          rw [hcd] at hc Hs
          clear hcd Hcell HF
          rcases (show (97 ≤ c ∧ c ≤ 122) ∨ (65 ≤ c ∧ c ≤ 90) ∨ (48 ≤ c ∧ c ≤ 57) ∨ c = 46 ∨ c = 45 ∨ c < 45 ∨ c = 47 ∨ (58 ≤ c ∧ c ≤ 64) ∨ (91 ≤ c ∧ c ≤ 96) ∨ 123 ≤ c by omega) with h | h | h | h | h | h | h | h | h | h
          iterate 5
            · have Hn : Kp (nameOk s = ((bys s).drop (k + 1)).all okc) := ⟨by rw [Hk.out, Hs.out, okc_true (by omega), Bool.true_and]⟩
              clear Hs
              try subst h
              go_wp2
              go_round
              case rel => exact ⟨k + 1, by omega, by go_num, Hn⟩
              case measure => simp [intOf]; omega
          all_goals
            have Hn : Kp (nameOk s = false) := ⟨by rw [Hk.out, Hs.out, okc_false (by omega), Bool.false_and]⟩
            have h46 : (c == 46) = false := by simp; omega
            have h45 : (c == 45) = false := by simp; omega
            clear Hs
            go_wp2
            all_goals first
              | (go_ret; exact ⟨ret_bool Hn.out.symm, hb⟩)
              | (exfalso; rename_i hx; simp at hx; omega)
        · go_wp2
          go_ret
          exact ⟨ret_bool (by rw [Hk.out, List.drop_eq_nil_of_le (by rw [bys_length]; omega)]; rfl), hb⟩
    · go_enter Try.func48, Try.ntmps48
      go_wp2_with fail
      go_ret
      exact ⟨by simp [nameOk, h40], Below.refl _ _⟩
end Go.Proofs.Ytgeklapphkgdkaa.Dsk
