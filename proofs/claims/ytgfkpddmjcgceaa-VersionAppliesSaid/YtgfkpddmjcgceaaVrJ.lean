import Derived.Test.YtgfkpddmjcgceaaVrE
import Derived.Test.YtgfkpddmjcgceaaKaE
set_option linter.unusedVariables false
set_option linter.unusedSimpArgs false
namespace Go.Proofs.Ytgfkpddmjcgceaa.Kx
open Go.RowKit Go.Maps Go.Proofs.YtgfkpddmjcgceaaW.PrintWords

def inF (rs : List Rn) (f : Int) : Prop := ∃ j, j < rs.length ∧ (rs.getD j zRn).file = f
theorem one_int (W : World) (f : Int) : (Kd.int .i64).C (W.alloc (.cells #[.int .i64 f] 3)) (some ⟨W.heap.size, 0, none⟩) 1 [f] := by
  have h := own_lit W W.heap.size 3 .i64 [f] (Nat.le_refl _) (by simp)
  exact (Kd.R_reads' (Kd.R_of_own (enc := Value.int .i64) (h1 := fun _ => rfl) (ok := fun _ => True) (xs := [f]) h (fun _ _ => trivial))).2.2
def FilesR (rs add : List Rn) (drop : List Int) (x : Int) : Prop :=
  (x = 8 ∧ ∃ i, i < drop.length ∧ ¬ inF rs (drop.getD i 0)) ∨ ((∀ i, i < drop.length → inF rs (drop.getD i 0)) ∧
    ((x = 9 ∧ ∃ i, i < add.length ∧ inF rs (add.getD i zRn).file ∧ (add.getD i zRn).file ∉ drop) ∨ (x = 0 ∧ ∀ i, i < add.length → ¬ (inF rs (add.getD i zRn).file ∧ (add.getD i zRn).file ∉ drop))))
def FilesQ (rs add : List Rn) (drop : List Int) (w : World) (e : Ending) (w' : World) : Prop := ∃ x : Int, e = .returned (.int .i64 x) ∧ FilesR rs add drop x ∧ Below w.heap.size w w'
theorem inF_one {rs : List Rn} {f : Int} : (∃ j, j < rs.length ∧ (rs.getD j zRn).file ∈ [f]) ↔ inF rs f := by simp [inF]

def laterI (was now : Int) : Int := if now = 0 then was else now
def laterB (was now : Int) : Bool := decide (now = 0 ∨ was ≤ now)
theorem later_any (was now : Int) (w : World) : Calls Try.prog 27 #[.int .i64 was, .int .i64 now] w fun e w' => e = .returned (.tuple #[.int .i64 (laterI was now), .bool (laterB was now)]) ∧ w' = w := by
  by_cases h : now = 0
  · subst h
    go_enter Try.func27, Try.ntmps27
    go_wp2
    go_ret2
    exact ⟨rfl, rfl⟩
  · have h2 : Kp (laterI was now = now ∧ laterB was now = decide (was ≤ now)) := ⟨if_neg h, by simp [laterB, h]⟩
    rw [h2.out.1, h2.out.2]
    go_enter Try.func27, Try.ntmps27
    go_wp2
    all_goals
      go_ret2
      exact ⟨rfl, rfl⟩

set_option maxHeartbeats 4000000 in
set_option maxRecDepth 100000 in
theorem version_files {w : World} {A A1 A2 : Option Addr} {c c1 c2 : Nat} {rs add : List Rn} {drop : List Int} (nx lg sq enx elg esq : Int) (h : kRn.C w A rs.length rs) (h1 : kRn.C w A1 add.length add) (h2 : (Kd.int .i64).C w A2 drop.length drop) :
    Calls Try.prog 22 #[.agg #[.slice A rs.length c, .int .i64 nx, .int .i64 lg, .int .u64 sq], .agg #[.slice A1 add.length c1, .slice A2 drop.length c2, .int .i64 enx, .int .i64 elg, .int .u64 esq]] w (FilesQ rs add drop w) := by
  have hm1 := h1.2.1
  have hm2 := h2.2.1
  obtain ⟨n, hn⟩ : ∃ n, n = rs.length := ⟨_, rfl⟩
  obtain ⟨n1, hn1⟩ : ∃ n, n = add.length := ⟨_, rfl⟩
  obtain ⟨n2, hn2⟩ : ∃ n, n = drop.length := ⟨_, rfl⟩
  rw [← hn] at h ⊢
  rw [← hn1] at h1 hm1 ⊢
  rw [← hn2] at h2 hm2 ⊢
  have H := Kp.mk h
  have H1 := Kp.mk h1
  have H2 := Kp.mk h2
  have Hn1 := Kp.mk hn1
  have Hn2 := Kp.mk hn2
  clear h h1 h2 hn hn1 hn2
  go_enter Try.func22, Try.ntmps22
  go_wp2_with fail
  go_loopw [12] (fun i wr => ∃ k : Nat, k ≤ n2 ∧ i = .int .i64 k ∧ Kp (∀ i, i < k → inF rs (drop.getD i 0)) ∧ Kp (wr.heap[w.heap.size]? = some (.cells #[.slice A n c, .int .i64 nx, .int .i64 lg, .int .u64 sq] 27 (0, 0))) ∧ Kp (wr.heap[w.heap.size + 1]? = some (.cells #[.slice A1 n1 c1, .slice A2 n2 c2, .int .i64 enx, .int .i64 elg, .int .u64 esq] 31 (0, 0))) ∧ Kp (Below w.heap.size w wr)) (fun i _ => n2 - (intOf i).toNat)
  case atStart => exact ⟨0, Nat.zero_le _, rfl, ⟨by omega⟩, ⟨heap_newb (alloc_below _ _)⟩, ⟨by have := heap_alloc_new (w.alloc (.cells #[.slice A n c, .int .i64 nx, .int .i64 lg, .int .u64 sq] 27)) (.cells #[.slice A1 n1 c1, .slice A2 n2 c2, .int .i64 enx, .int .i64 elg, .int .u64 esq] 31); rwa [show (w.alloc (.cells #[.slice A n c, .int .i64 nx, .int .i64 lg, .int .u64 sq] 27)).heap.size = w.heap.size + 1 by simp] at this⟩, ⟨(alloc_below w _).alloc (by simp) _⟩⟩
  case round =>
    obtain ⟨k, hk, rfl, HN, HX, HY, HB⟩ := hrel
    have HWs := Kp.mk HB.out.size
    by_cases hlt : k < n2
    · obtain ⟨ad, rfl, c0⟩ := ints_at (Kd.C_below H2.out HB.out) k hlt
      obtain ⟨f, hf⟩ : ∃ f, drop.getD k 0 = f := ⟨_, rfl⟩
      rw [hf] at c0
      have Hf := Kp.mk hf
      clear hf
      have b0 := cells_top HX.out 0 _ rfl
      by_cases hin : inF rs f
      · have hv : Kp (∀ i, i < k + 1 → inF rs (drop.getD i 0)) := ⟨fun i hi => by
          by_cases hik : i = k
          · subst hik; rw [Hf.out]; exact hin
          · exact HN.out i (by omega)⟩
        have Hin := Kp.mk hin
        clear hin
        have HRS : kRn.C ((wr.drew.alloc (.cells #[.int .i64 f] 3)).alloc (.cells #[.slice (some ⟨wr.heap.size, 0, none⟩) 1 1] 29)) A n rs := Kd.C_alloc (Kd.C_alloc (Kd.C_drew (Kd.C_below H.out HB.out)) _) _
        have hcc := contains_func (c := c) HRS (p := wr.heap.size + 1) (A' := some ⟨wr.heap.size, 0, none⟩) (n' := 1) (c' := 1) (xs := [f]) (by have := cell_new (wr.drew.alloc (.cells #[.int .i64 f] 3)) #[.slice (some ⟨wr.heap.size, 0, none⟩) 1 1] 29 0 _ rfl; rwa [show (wr.drew.alloc (.cells #[.int .i64 f] 3)).heap.size = wr.heap.size + 1 by simp] at this) (Kd.C_alloc (by have := one_int wr.drew f; exact this) _)
        have Hcc := Kp.mk (hcc.mono (R' := fun e w' => e = .returned (.bool true) ∧ Below wr.heap.size wr w') (fun e w' hq => by
          obtain ⟨b, he, hb, hb1⟩ := hq
          have hbt : b = true := hb.2 (inF_one.2 Hin.out)
          exact ⟨by rw [he, hbt], (((Below.refl wr.heap.size wr).drew.alloc (by simp) (.cells #[.int .i64 f] 3)).alloc (by simp) (.cells #[.slice (some ⟨wr.heap.size, 0, none⟩) 1 1] 29)).trans (hb1.mono (by simp; omega))⟩))
        clear hcc HRS
        go_wp2_with fail
        go_region_held3 (fun W => W.cell? ⟨w.heap.size, 0, none⟩ = some (.slice A n c)) (first | go_keep | exact pw_cell_below HB1.out b0)
          (first
          | (go_at_call 24; refine (with_any _ _ _ _).mono ?_; rintro e w1 ⟨rfl, rfl⟩)
          | (go_at_call 39; refine Hcc.out.mono ?_; rintro e w1 ⟨rfl, hb1⟩; have HB1 := Kp.mk hb1; clear hb1))
        all_goals
          have hx := (HB1.out.block _ (lt_of_block HX.out)).trans HX.out
          have hy := (HB1.out.block _ (lt_of_block HY.out)).trans HY.out
          have hb2 := HB.out.trans (HB1.out.mono HWs.out)
          go_wp2_with fail
          go_roundw
          case rel => exact ⟨k + 1, by omega, by go_num, hv, ⟨hx⟩, ⟨hy⟩, ⟨hb2⟩⟩
          case measure => simp [intOf]; omega
      · have hv : Kp (FilesR rs add drop 8) := ⟨.inl ⟨rfl, k, by rw [← Hn2.out]; exact hlt, by rw [Hf.out]; exact hin⟩⟩
        have Hin := Kp.mk hin
        clear hin
        have HRS : kRn.C ((wr.drew.alloc (.cells #[.int .i64 f] 3)).alloc (.cells #[.slice (some ⟨wr.heap.size, 0, none⟩) 1 1] 29)) A n rs := Kd.C_alloc (Kd.C_alloc (Kd.C_drew (Kd.C_below H.out HB.out)) _) _
        have hcc := contains_func (c := c) HRS (p := wr.heap.size + 1) (A' := some ⟨wr.heap.size, 0, none⟩) (n' := 1) (c' := 1) (xs := [f]) (by have := cell_new (wr.drew.alloc (.cells #[.int .i64 f] 3)) #[.slice (some ⟨wr.heap.size, 0, none⟩) 1 1] 29 0 _ rfl; rwa [show (wr.drew.alloc (.cells #[.int .i64 f] 3)).heap.size = wr.heap.size + 1 by simp] at this) (Kd.C_alloc (by have := one_int wr.drew f; exact this) _)
        have Hcc := Kp.mk (hcc.mono (R' := fun e w' => e = .returned (.bool false) ∧ Below wr.heap.size wr w') (fun e w' hq => by
          obtain ⟨b, he, hb, hb1⟩ := hq
          have hbt : b = false := (by cases b with | false => rfl | true => exact absurd (inF_one.1 (hb.1 rfl)) Hin.out)
          exact ⟨by rw [he, hbt], (((Below.refl wr.heap.size wr).drew.alloc (by simp) (.cells #[.int .i64 f] 3)).alloc (by simp) (.cells #[.slice (some ⟨wr.heap.size, 0, none⟩) 1 1] 29)).trans (hb1.mono (by simp; omega))⟩))
        clear hcc HRS
        go_wp2_with fail
        go_region_held3 (fun W => W.cell? ⟨w.heap.size, 0, none⟩ = some (.slice A n c)) (first | go_keep | exact pw_cell_below HB1.out b0)
          (first
          | (go_at_call 24; refine (with_any _ _ _ _).mono ?_; rintro e w1 ⟨rfl, rfl⟩)
          | (go_at_call 39; refine Hcc.out.mono ?_; rintro e w1 ⟨rfl, hb1⟩; have HB1 := Kp.mk hb1; clear hb1))
        all_goals
          have hb2 := HB.out.trans (HB1.out.mono HWs.out)
          go_wp2_with fail
          go_ret
          exact ⟨_, rfl, hv.out, hb2⟩
    · have V1 : Kp (∀ i, i < drop.length → inF rs (drop.getD i 0)) := ⟨fun i hi => HN.out i (by have := Hn2.out; omega)⟩
      have b1 := cells_top HY.out 0 _ rfl
      clear HN
      go_wp2_with fail
      go_loopw [27] (fun i w3 => ∃ k : Nat, k ≤ n1 ∧ i = .int .i64 k ∧ Kp (∀ i, i < k → ¬ (inF rs (add.getD i zRn).file ∧ (add.getD i zRn).file ∉ drop)) ∧ Kp (w3.heap[w.heap.size]? = some (.cells #[.slice A n c, .int .i64 nx, .int .i64 lg, .int .u64 sq] 27 (0, 0))) ∧ Kp (w3.heap[w.heap.size + 1]? = some (.cells #[.slice A1 n1 c1, .slice A2 n2 c2, .int .i64 enx, .int .i64 elg, .int .u64 esq] 31 (0, 0))) ∧ Kp (Below w.heap.size w w3)) (fun i _ => n1 - (intOf i).toNat)
      case atStart => exact ⟨0, Nat.zero_le _, rfl, ⟨by omega⟩, HX, HY, HB⟩
      case round =>
        clear HX HY HB HWs b1
        obtain ⟨k, hk, rfl, HN, HX, HY, HB⟩ := hrel
        have HWs := Kp.mk HB.out.size
        by_cases hlt : k < n1
        · obtain ⟨ad, A3, c3, A4, c4, rfl, c0, d1, d2, d3, d4, d5, _⟩ := rn_at (Kd.C_below H1.out HB.out) k hlt
          obtain ⟨r, hr⟩ : ∃ r, add.getD k zRn = r := ⟨_, rfl⟩
          rw [hr] at c0 d1 d2 d3 d4 d5
          have Hr := Kp.mk hr
          clear hr
          by_cases hin : inF rs r.file
          · by_cases hdr : r.file ∈ drop
            · have Hin := Kp.mk hin
              clear hin
              have hv : Kp (∀ i, i < k + 1 → ¬ (inF rs (add.getD i zRn).file ∧ (add.getD i zRn).file ∉ drop)) := ⟨fun i hi => by
                by_cases hik : i = k
                · subst hik; rw [Hr.out]; exact fun h => h.2 hdr
                · exact HN.out i (by omega)⟩
              have Hct : Kp (∀ W, Below (wr.heap.size + 1) (wr.alloc (.cells #[.int .i64 r.file, .int .i64 r.bytes, .int .i64 r.count, .slice A3 r.first.length c3, .slice A4 r.last.length c4, .int .u64 r.seq] 42)) W → Calls Try.prog 40 #[.slice A2 n2 c2, .int .i64 r.file] W fun e w' => e = .returned (.bool true) ∧ w' = W) := ⟨fun W hW => by
                have := contains_int (c := c2) r.file (Kd.C_below (Kd.C_alloc (Kd.C_below H2.out HB.out) (.cells #[.int .i64 r.file, .int .i64 r.bytes, .int .i64 r.count, .slice A3 r.first.length c3, .slice A4 r.last.length c4, .int .u64 r.seq] 42)) (by simpa using hW))
                rwa [decide_eq_true hdr] at this⟩
              have HRS : kRn.C (((wr.alloc (.cells #[.int .i64 r.file, .int .i64 r.bytes, .int .i64 r.count, .slice A3 r.first.length c3, .slice A4 r.last.length c4, .int .u64 r.seq] 42)).drew.alloc (.cells #[.int .i64 r.file] 3)).alloc (.cells #[.slice (some ⟨wr.heap.size + 1, 0, none⟩) 1 1] 29)) A n rs := Kd.C_alloc (Kd.C_alloc (Kd.C_drew (Kd.C_alloc (Kd.C_below H.out HB.out) _)) _) _
              have hcc := contains_func (c := c) HRS (p := wr.heap.size + 1 + 1) (A' := some ⟨wr.heap.size + 1, 0, none⟩) (n' := 1) (c' := 1) (xs := [r.file]) (by have := cell_new ((wr.alloc (.cells #[.int .i64 r.file, .int .i64 r.bytes, .int .i64 r.count, .slice A3 r.first.length c3, .slice A4 r.last.length c4, .int .u64 r.seq] 42)).drew.alloc (.cells #[.int .i64 r.file] 3)) #[.slice (some ⟨wr.heap.size + 1, 0, none⟩) 1 1] 29 0 _ rfl; rwa [show ((wr.alloc (.cells #[.int .i64 r.file, .int .i64 r.bytes, .int .i64 r.count, .slice A3 r.first.length c3, .slice A4 r.last.length c4, .int .u64 r.seq] 42)).drew.alloc (.cells #[.int .i64 r.file] 3)).heap.size = wr.heap.size + 1 + 1 by simp] at this) (Kd.C_alloc (by have := one_int (wr.alloc (.cells #[.int .i64 r.file, .int .i64 r.bytes, .int .i64 r.count, .slice A3 r.first.length c3, .slice A4 r.last.length c4, .int .u64 r.seq] 42)).drew r.file; rwa [show (wr.alloc (.cells #[.int .i64 r.file, .int .i64 r.bytes, .int .i64 r.count, .slice A3 r.first.length c3, .slice A4 r.last.length c4, .int .u64 r.seq] 42)).drew.heap.size = wr.heap.size + 1 by simp] at this) _)
              have Hcc := Kp.mk (hcc.mono (R' := fun e w' => e = .returned (.bool true) ∧ Below (wr.heap.size + 1) (wr.alloc (.cells #[.int .i64 r.file, .int .i64 r.bytes, .int .i64 r.count, .slice A3 r.first.length c3, .slice A4 r.last.length c4, .int .u64 r.seq] 42)) w') (fun e w' hq => by
                obtain ⟨b, he, hb, hb1⟩ := hq
                have hbt : b = true := hb.2 (inF_one.2 Hin.out)
                exact ⟨by rw [he, hbt], (((Below.refl (wr.heap.size + 1) (wr.alloc (.cells #[.int .i64 r.file, .int .i64 r.bytes, .int .i64 r.count, .slice A3 r.first.length c3, .slice A4 r.last.length c4, .int .u64 r.seq] 42))).drew.alloc (by simp) (.cells #[.int .i64 r.file] 3)).alloc (by simp) (.cells #[.slice (some ⟨wr.heap.size + 1, 0, none⟩) 1 1] 29)).trans (hb1.mono (by simp))⟩))
              clear hcc HRS
              clear hdr
              have HWb := Kp.mk (alloc_below wr (.cells #[.int .i64 r.file, .int .i64 r.bytes, .int .i64 r.count, .slice A3 r.first.length c3, .slice A4 r.last.length c4, .int .u64 r.seq] 42))
              have b0 := pw_cell_below HWb.out (cells_top HX.out 0 _ rfl)
              have b1 := pw_cell_below HWb.out (cells_top HY.out 1 _ rfl)
              have b2 := cell_new wr #[.int .i64 r.file, .int .i64 r.bytes, .int .i64 r.count, .slice A3 r.first.length c3, .slice A4 r.last.length c4, .int .u64 r.seq] 42 0 _ rfl
              have hs : (wr.alloc (.cells #[.int .i64 r.file, .int .i64 r.bytes, .int .i64 r.count, .slice A3 r.first.length c3, .slice A4 r.last.length c4, .int .u64 r.seq] 42)).heap.size = wr.heap.size + 1 := by simp
              have Hs := Kp.mk hs
              clear hs
              go_wp2_with fail
              go_region_held3 (fun W => W.cell? ⟨w.heap.size, 0, none⟩ = some (.slice A n c) ∧ W.cell? ⟨w.heap.size + 1, 1, none⟩ = some (.slice A2 n2 c2) ∧ W.cell? ⟨wr.heap.size, 0, none⟩ = some (.int .i64 r.file)) (first | go_keep | exact ⟨k0, k1, k2⟩)
                (first
                | (go_at_call 24; refine (with_any _ _ _ _).mono ?_; rintro e w1 ⟨rfl, rfl⟩)
                | (go_at_call 39; refine Hcc.out.mono ?_; rintro e w1 ⟨rfl, hb1⟩; have HB1 := Kp.mk (HWb.out.trans (hb1.mono (by omega))); have HBW := Kp.mk hb1; have k0 := (hb1.cell (by have := World.block_lt_of_cell? _ _ b0; simpa using this)).trans b0; have k1 := (hb1.cell (by have := World.block_lt_of_cell? _ _ b1; simpa using this)).trans b1; have k2 := (hb1.cell (by simp)).trans b2; clear hb1)
                | (go_at_call 40; refine (Hct.out _ HBW.out).mono ?_; rintro e w2 ⟨rfl, rfl⟩))
              all_goals
                have hx := (HB1.out.block _ (lt_of_block HX.out)).trans HX.out
                have hy := (HB1.out.block _ (lt_of_block HY.out)).trans HY.out
                have hb2 := HB.out.trans (HB1.out.mono HWs.out)
                go_wp2_with fail
                go_roundw
                case rel => exact ⟨k + 1, by omega, by go_num, hv, ⟨hx⟩, ⟨hy⟩, ⟨hb2⟩⟩
                case measure => simp [intOf]; omega
            · have Hin := Kp.mk hin
              clear hin
              have hv : Kp (FilesR rs add drop 9) := ⟨.inr ⟨V1.out, .inl ⟨rfl, k, by rw [← Hn1.out]; exact hlt, by rw [Hr.out]; exact ⟨Hin.out, hdr⟩⟩⟩⟩
              have Hct : Kp (∀ W, Below (wr.heap.size + 1) (wr.alloc (.cells #[.int .i64 r.file, .int .i64 r.bytes, .int .i64 r.count, .slice A3 r.first.length c3, .slice A4 r.last.length c4, .int .u64 r.seq] 42)) W → Calls Try.prog 40 #[.slice A2 n2 c2, .int .i64 r.file] W fun e w' => e = .returned (.bool false) ∧ w' = W) := ⟨fun W hW => by
                have := contains_int (c := c2) r.file (Kd.C_below (Kd.C_alloc (Kd.C_below H2.out HB.out) (.cells #[.int .i64 r.file, .int .i64 r.bytes, .int .i64 r.count, .slice A3 r.first.length c3, .slice A4 r.last.length c4, .int .u64 r.seq] 42)) (by simpa using hW))
                rwa [decide_eq_false hdr] at this⟩
              have HRS : kRn.C (((wr.alloc (.cells #[.int .i64 r.file, .int .i64 r.bytes, .int .i64 r.count, .slice A3 r.first.length c3, .slice A4 r.last.length c4, .int .u64 r.seq] 42)).drew.alloc (.cells #[.int .i64 r.file] 3)).alloc (.cells #[.slice (some ⟨wr.heap.size + 1, 0, none⟩) 1 1] 29)) A n rs := Kd.C_alloc (Kd.C_alloc (Kd.C_drew (Kd.C_alloc (Kd.C_below H.out HB.out) _)) _) _
              have hcc := contains_func (c := c) HRS (p := wr.heap.size + 1 + 1) (A' := some ⟨wr.heap.size + 1, 0, none⟩) (n' := 1) (c' := 1) (xs := [r.file]) (by have := cell_new ((wr.alloc (.cells #[.int .i64 r.file, .int .i64 r.bytes, .int .i64 r.count, .slice A3 r.first.length c3, .slice A4 r.last.length c4, .int .u64 r.seq] 42)).drew.alloc (.cells #[.int .i64 r.file] 3)) #[.slice (some ⟨wr.heap.size + 1, 0, none⟩) 1 1] 29 0 _ rfl; rwa [show ((wr.alloc (.cells #[.int .i64 r.file, .int .i64 r.bytes, .int .i64 r.count, .slice A3 r.first.length c3, .slice A4 r.last.length c4, .int .u64 r.seq] 42)).drew.alloc (.cells #[.int .i64 r.file] 3)).heap.size = wr.heap.size + 1 + 1 by simp] at this) (Kd.C_alloc (by have := one_int (wr.alloc (.cells #[.int .i64 r.file, .int .i64 r.bytes, .int .i64 r.count, .slice A3 r.first.length c3, .slice A4 r.last.length c4, .int .u64 r.seq] 42)).drew r.file; rwa [show (wr.alloc (.cells #[.int .i64 r.file, .int .i64 r.bytes, .int .i64 r.count, .slice A3 r.first.length c3, .slice A4 r.last.length c4, .int .u64 r.seq] 42)).drew.heap.size = wr.heap.size + 1 by simp] at this) _)
              have Hcc := Kp.mk (hcc.mono (R' := fun e w' => e = .returned (.bool true) ∧ Below (wr.heap.size + 1) (wr.alloc (.cells #[.int .i64 r.file, .int .i64 r.bytes, .int .i64 r.count, .slice A3 r.first.length c3, .slice A4 r.last.length c4, .int .u64 r.seq] 42)) w') (fun e w' hq => by
                obtain ⟨b, he, hb, hb1⟩ := hq
                have hbt : b = true := hb.2 (inF_one.2 Hin.out)
                exact ⟨by rw [he, hbt], (((Below.refl (wr.heap.size + 1) (wr.alloc (.cells #[.int .i64 r.file, .int .i64 r.bytes, .int .i64 r.count, .slice A3 r.first.length c3, .slice A4 r.last.length c4, .int .u64 r.seq] 42))).drew.alloc (by simp) (.cells #[.int .i64 r.file] 3)).alloc (by simp) (.cells #[.slice (some ⟨wr.heap.size + 1, 0, none⟩) 1 1] 29)).trans (hb1.mono (by simp))⟩))
              clear hcc HRS
              clear hdr
              have HWb := Kp.mk (alloc_below wr (.cells #[.int .i64 r.file, .int .i64 r.bytes, .int .i64 r.count, .slice A3 r.first.length c3, .slice A4 r.last.length c4, .int .u64 r.seq] 42))
              have b0 := pw_cell_below HWb.out (cells_top HX.out 0 _ rfl)
              have b1 := pw_cell_below HWb.out (cells_top HY.out 1 _ rfl)
              have b2 := cell_new wr #[.int .i64 r.file, .int .i64 r.bytes, .int .i64 r.count, .slice A3 r.first.length c3, .slice A4 r.last.length c4, .int .u64 r.seq] 42 0 _ rfl
              have hs : (wr.alloc (.cells #[.int .i64 r.file, .int .i64 r.bytes, .int .i64 r.count, .slice A3 r.first.length c3, .slice A4 r.last.length c4, .int .u64 r.seq] 42)).heap.size = wr.heap.size + 1 := by simp
              have Hs := Kp.mk hs
              clear hs
              go_wp2_with fail
              go_region_held3 (fun W => W.cell? ⟨w.heap.size, 0, none⟩ = some (.slice A n c) ∧ W.cell? ⟨w.heap.size + 1, 1, none⟩ = some (.slice A2 n2 c2) ∧ W.cell? ⟨wr.heap.size, 0, none⟩ = some (.int .i64 r.file)) (first | go_keep | exact ⟨k0, k1, k2⟩)
                (first
                | (go_at_call 24; refine (with_any _ _ _ _).mono ?_; rintro e w1 ⟨rfl, rfl⟩)
                | (go_at_call 39; refine Hcc.out.mono ?_; rintro e w1 ⟨rfl, hb1⟩; have HB1 := Kp.mk (HWb.out.trans (hb1.mono (by omega))); have HBW := Kp.mk hb1; have k0 := (hb1.cell (by have := World.block_lt_of_cell? _ _ b0; simpa using this)).trans b0; have k1 := (hb1.cell (by have := World.block_lt_of_cell? _ _ b1; simpa using this)).trans b1; have k2 := (hb1.cell (by simp)).trans b2; clear hb1)
                | (go_at_call 40; refine (Hct.out _ HBW.out).mono ?_; rintro e w2 ⟨rfl, rfl⟩))
              all_goals
                have hb2 := HB.out.trans (HB1.out.mono HWs.out)
                go_wp2_with fail
                go_ret
                exact ⟨_, rfl, hv.out, hb2⟩
          · have Hin := Kp.mk hin
            clear hin
            have hv : Kp (∀ i, i < k + 1 → ¬ (inF rs (add.getD i zRn).file ∧ (add.getD i zRn).file ∉ drop)) := ⟨fun i hi => by
              by_cases hik : i = k
              · subst hik; rw [Hr.out]; exact fun h => Hin.out h.1
              · exact HN.out i (by omega)⟩
            have HRS : kRn.C (((wr.alloc (.cells #[.int .i64 r.file, .int .i64 r.bytes, .int .i64 r.count, .slice A3 r.first.length c3, .slice A4 r.last.length c4, .int .u64 r.seq] 42)).drew.alloc (.cells #[.int .i64 r.file] 3)).alloc (.cells #[.slice (some ⟨wr.heap.size + 1, 0, none⟩) 1 1] 29)) A n rs := Kd.C_alloc (Kd.C_alloc (Kd.C_drew (Kd.C_alloc (Kd.C_below H.out HB.out) _)) _) _
            have hcc := contains_func (c := c) HRS (p := wr.heap.size + 1 + 1) (A' := some ⟨wr.heap.size + 1, 0, none⟩) (n' := 1) (c' := 1) (xs := [r.file]) (by have := cell_new ((wr.alloc (.cells #[.int .i64 r.file, .int .i64 r.bytes, .int .i64 r.count, .slice A3 r.first.length c3, .slice A4 r.last.length c4, .int .u64 r.seq] 42)).drew.alloc (.cells #[.int .i64 r.file] 3)) #[.slice (some ⟨wr.heap.size + 1, 0, none⟩) 1 1] 29 0 _ rfl; rwa [show ((wr.alloc (.cells #[.int .i64 r.file, .int .i64 r.bytes, .int .i64 r.count, .slice A3 r.first.length c3, .slice A4 r.last.length c4, .int .u64 r.seq] 42)).drew.alloc (.cells #[.int .i64 r.file] 3)).heap.size = wr.heap.size + 1 + 1 by simp] at this) (Kd.C_alloc (by have := one_int (wr.alloc (.cells #[.int .i64 r.file, .int .i64 r.bytes, .int .i64 r.count, .slice A3 r.first.length c3, .slice A4 r.last.length c4, .int .u64 r.seq] 42)).drew r.file; rwa [show (wr.alloc (.cells #[.int .i64 r.file, .int .i64 r.bytes, .int .i64 r.count, .slice A3 r.first.length c3, .slice A4 r.last.length c4, .int .u64 r.seq] 42)).drew.heap.size = wr.heap.size + 1 by simp] at this) _)
            have Hcc := Kp.mk (hcc.mono (R' := fun e w' => e = .returned (.bool false) ∧ Below (wr.heap.size + 1) (wr.alloc (.cells #[.int .i64 r.file, .int .i64 r.bytes, .int .i64 r.count, .slice A3 r.first.length c3, .slice A4 r.last.length c4, .int .u64 r.seq] 42)) w') (fun e w' hq => by
              obtain ⟨b, he, hb, hb1⟩ := hq
              have hbt : b = false := (by cases b with | false => rfl | true => exact absurd (inF_one.1 (hb.1 rfl)) Hin.out)
              exact ⟨by rw [he, hbt], (((Below.refl (wr.heap.size + 1) (wr.alloc (.cells #[.int .i64 r.file, .int .i64 r.bytes, .int .i64 r.count, .slice A3 r.first.length c3, .slice A4 r.last.length c4, .int .u64 r.seq] 42))).drew.alloc (by simp) (.cells #[.int .i64 r.file] 3)).alloc (by simp) (.cells #[.slice (some ⟨wr.heap.size + 1, 0, none⟩) 1 1] 29)).trans (hb1.mono (by simp))⟩))
            clear hcc HRS
            have HWb := Kp.mk (alloc_below wr (.cells #[.int .i64 r.file, .int .i64 r.bytes, .int .i64 r.count, .slice A3 r.first.length c3, .slice A4 r.last.length c4, .int .u64 r.seq] 42))
            have b0 := pw_cell_below HWb.out (cells_top HX.out 0 _ rfl)
            have b1 := pw_cell_below HWb.out (cells_top HY.out 1 _ rfl)
            have b2 := cell_new wr #[.int .i64 r.file, .int .i64 r.bytes, .int .i64 r.count, .slice A3 r.first.length c3, .slice A4 r.last.length c4, .int .u64 r.seq] 42 0 _ rfl
            have hs : (wr.alloc (.cells #[.int .i64 r.file, .int .i64 r.bytes, .int .i64 r.count, .slice A3 r.first.length c3, .slice A4 r.last.length c4, .int .u64 r.seq] 42)).heap.size = wr.heap.size + 1 := by simp
            have Hs := Kp.mk hs
            clear hs
            go_wp2_with fail
            refine wp_region_held_drew (S := fun W => W.cell? ⟨w.heap.size, 0, none⟩ = some (.slice A n c) ∧ W.cell? ⟨w.heap.size + 1, 1, none⟩ = some (.slice A2 n2 c2) ∧ W.cell? ⟨wr.heap.size, 0, none⟩ = some (.int .i64 r.file)) (by kernel_rfl) (by go_keep) (fun hHeld0 => ?_)
            refine wpAnyH_take (i := 0) (oi := _) (v := ?_) rfl (by kernel_rfl) (by kernel_rfl) (by kernel_rfl) (fun _ _ _ h => h) (Or.inl ⟨by rfl, ?_⟩) (by assumption) ?_
            rotate_left
            · intro w5 hSw; (try dsimp only at hSw); go_simp; all_goals (with_reducible rfl)
            try simp only [List.getElem_toArray, List.getElem_cons_succ, List.getElem_cons_zero, Act.put, List.setIfInBounds_toArray, List.set_cons_zero, List.set_cons_succ]
            refine wpAnyH_take (i := 1) (oi := _) (v := ?_) rfl (by kernel_rfl) (by kernel_rfl) (by kernel_rfl) (fun _ _ _ h => h) (Or.inl ⟨by rfl, ?_⟩) (by assumption) ?_
            rotate_left
            · intro w5 hSw; (try dsimp only at hSw); go_simp; all_goals (with_reducible rfl)
            try simp only [List.getElem_toArray, List.getElem_cons_succ, List.getElem_cons_zero, Act.put, List.setIfInBounds_toArray, List.set_cons_zero, List.set_cons_succ]
            refine wpAnyH_take (i := 2) (oi := _) (v := ?_) rfl (by kernel_rfl) (by kernel_rfl) (by kernel_rfl) (fun _ _ _ h => h) (Or.inl ⟨by rfl, ?_⟩) (by assumption) ?_
            rotate_left
            · intro w5 hSw; (try dsimp only at hSw); go_simp; all_goals (with_reducible rfl)
            try simp only [List.getElem_toArray, List.getElem_cons_succ, List.getElem_cons_zero, Act.put, List.setIfInBounds_toArray, List.set_cons_zero, List.set_cons_succ]
            refine wpAnyH_take (i := 3) (oi := _) (v := ?_) rfl (by kernel_rfl) (by kernel_rfl) (by kernel_rfl) (fun _ _ _ h => h) (Or.inl ⟨by rfl, ?_⟩) (by assumption) ?_
            rotate_left
            · intro w5 hSw; (try dsimp only at hSw); go_simp; all_goals (with_reducible rfl)
            try simp only [List.getElem_toArray, List.getElem_cons_succ, List.getElem_cons_zero, Act.put, List.setIfInBounds_toArray, List.set_cons_zero, List.set_cons_succ]
            refine wpAnyH_ready (rs := [4]) (by kernel_rfl) (by simp) ?_
            refine AllReadyH.cons (o := _) rfl (fun K hK => ?_) AllReadyH.nil
            go_simp
            refine hK.out _ _ ?_ (fun hHeld4 => ?_)
            · (try dsimp only); go_keep
            clear hK K hHeld0
            try simp only [List.getElem_toArray, List.getElem_cons_succ, List.getElem_cons_zero, Act.put, List.setIfInBounds_toArray, List.set_cons_zero, List.set_cons_succ]
            refine wpAnyH_ready (rs := [5]) (by kernel_rfl) (by simp) ?_
            refine AllReadyH.cons (o := _) rfl (fun K hK => ?_) AllReadyH.nil
            go_simp
            refine (with_any _ _ _ _).mono ?_; rintro e w1 ⟨rfl, rfl⟩
            refine hK.out _ _ ?_ (fun hHeld5 => ?_)
            · (try dsimp only); go_keep
            clear hK K hHeld4
            try simp only [List.getElem_toArray, List.getElem_cons_succ, List.getElem_cons_zero, Act.put, List.setIfInBounds_toArray, List.set_cons_zero, List.set_cons_succ]
            refine wpAnyH_ready (rs := [6]) (by kernel_rfl) (by simp) ?_
            refine AllReadyH.cons (o := _) rfl (fun K hK => ?_) AllReadyH.nil
            go_simp
            refine Hcc.out.mono ?_; rintro e w1 ⟨rfl, hb1⟩; have HB1 := Kp.mk (HWb.out.trans (hb1.mono (by omega))); have k0 := (hb1.cell (by have := World.block_lt_of_cell? _ _ b0; simpa using this)).trans b0; have k1 := (hb1.cell (by have := World.block_lt_of_cell? _ _ b1; simpa using this)).trans b1; have k2 := (hb1.cell (by simp)).trans b2; clear hb1
            refine hK.out _ _ ?_ (fun hHeld6 => ?_)
            · (try dsimp only); exact ⟨k0, k1, k2⟩
            clear hK K hHeld5
            try simp only [List.getElem_toArray, List.getElem_cons_succ, List.getElem_cons_zero, Act.put, List.setIfInBounds_toArray, List.set_cons_zero, List.set_cons_succ]
            refine wpAnyH_take (i := 7) (oi := _) (v := ?_) rfl (by kernel_rfl) (by kernel_rfl) (by kernel_rfl) (fun _ _ _ h => h) (Or.inl ⟨by rfl, ?_⟩) (by assumption) ?_
            rotate_left
            · intro w5 hSw; (try dsimp only at hSw); go_simp; all_goals (with_reducible rfl)
            try simp only [List.getElem_toArray, List.getElem_cons_succ, List.getElem_cons_zero, Act.put, List.setIfInBounds_toArray, List.set_cons_zero, List.set_cons_succ]
            refine wpAnyH_take (i := 8) (oi := _) (v := undef) rfl (by kernel_rfl) (by kernel_rfl) (by kernel_rfl) (fun _ _ _ h => h) (Or.inr ⟨by rfl, rfl⟩) (by assumption) ?_
            try simp only [List.getElem_toArray, List.getElem_cons_succ, List.getElem_cons_zero, Act.put, List.setIfInBounds_toArray, List.set_cons_zero, List.set_cons_succ]
            refine wpAnyH_take (i := 9) (oi := _) (v := undef) rfl (by kernel_rfl) (by kernel_rfl) (by kernel_rfl) (fun _ _ _ h => h) (Or.inr ⟨by rfl, rfl⟩) (by assumption) ?_
            try simp only [List.getElem_toArray, List.getElem_cons_succ, List.getElem_cons_zero, Act.put, List.setIfInBounds_toArray, List.set_cons_zero, List.set_cons_succ]
            refine wpAnyH_take (i := 10) (oi := _) (v := undef) rfl (by kernel_rfl) (by kernel_rfl) (by kernel_rfl) (fun _ _ _ h => h) (Or.inr ⟨by rfl, rfl⟩) (by assumption) ?_
            try simp only [List.getElem_toArray, List.getElem_cons_succ, List.getElem_cons_zero, Act.put, List.setIfInBounds_toArray, List.set_cons_zero, List.set_cons_succ]
            refine wpAnyH_take (i := 11) (oi := _) (v := undef) rfl (by kernel_rfl) (by kernel_rfl) (by kernel_rfl) (fun _ _ _ h => h) (Or.inr ⟨by rfl, rfl⟩) (by assumption) ?_
            try simp only [List.getElem_toArray, List.getElem_cons_succ, List.getElem_cons_zero, Act.put, List.setIfInBounds_toArray, List.set_cons_zero, List.set_cons_succ]
            refine wpAnyH_take (i := 12) (oi := _) (v := undef) rfl (by kernel_rfl) (by kernel_rfl) (by kernel_rfl) (fun _ _ _ h => h) (Or.inr ⟨by rfl, rfl⟩) (by assumption) ?_
            try simp only [List.getElem_toArray, List.getElem_cons_succ, List.getElem_cons_zero, Act.put, List.setIfInBounds_toArray, List.set_cons_zero, List.set_cons_succ]
            refine wpAnyH_take (i := 13) (oi := _) (v := undef) rfl (by kernel_rfl) (by kernel_rfl) (by kernel_rfl) (fun _ _ _ h => h) (Or.inr ⟨by rfl, rfl⟩) (by assumption) ?_
            try simp only [List.getElem_toArray, List.getElem_cons_succ, List.getElem_cons_zero, Act.put, List.setIfInBounds_toArray, List.set_cons_zero, List.set_cons_succ]
            refine wpAnyH_take (i := 14) (oi := _) (v := ?_) rfl (by kernel_rfl) (by kernel_rfl) (by kernel_rfl) (fun _ _ _ h => h) (Or.inl ⟨by rfl, ?_⟩) (by assumption) ?_
            rotate_left
            · intro w5 hSw; (try dsimp only at hSw); go_simp; all_goals (with_reducible rfl)
            try simp only [List.getElem_toArray, List.getElem_cons_succ, List.getElem_cons_zero, Act.put, List.setIfInBounds_toArray, List.set_cons_zero, List.set_cons_succ]
            refine wpAnyH_done (by kernel_rfl) ?_ _
            clear hHeld6 k0 k1 k2
            all_goals
              have hx := (HB1.out.block _ (lt_of_block HX.out)).trans HX.out
              have hy := (HB1.out.block _ (lt_of_block HY.out)).trans HY.out
              have hb2 := HB.out.trans (HB1.out.mono HWs.out)
              go_wp2_with fail
              go_roundw
              case rel => exact ⟨k + 1, by omega, by go_num, hv, ⟨hx⟩, ⟨hy⟩, ⟨hb2⟩⟩
              case measure => simp [intOf]; omega
        · have hv : Kp (FilesR rs add drop 0) := ⟨.inr ⟨V1.out, .inr ⟨rfl, fun i hi => HN.out i (by have := Hn1.out; omega)⟩⟩⟩
          go_wp2_with fail
          go_ret
          exact ⟨_, rfl, hv.out, HB.out⟩
end Go.Proofs.Ytgfkpddmjcgceaa.Kx
