import Derived.Test.YtgfkpddmjcgceaaLvC
set_option linter.unusedVariables false
set_option linter.unusedSimpArgs false
namespace Go.Proofs.Ytgfkpddmjcgceaa.Kx
open Go.RowKit Go.Maps Go.Sort Go.Proofs.YtgfkpddmjcgceaaW.PrintWords

/-- The files that a version needs. -/
def LiveP (rs : List Rn) (lg : Int) (l : List Int) : Prop := Asc l ∧ ∀ x, x ∈ l ↔ x ∈ rs.map Rn.file ∨ (lg ≠ 0 ∧ x = lg)
def LiveQ (rs : List Rn) (lg : Int) (w : World) (e : Ending) (w' : World) : Prop := ∃ v l, e = .returned v ∧ (Kd.int .i64).R 3 w' w.heap.size (fun _ => True) v l ∧ LiveP rs lg l ∧ Below w.heap.size w w'
theorem live_none {rs : List Rn} : LiveP rs 0 (Lib.compact ((rs.map Rn.file).mergeSort fun x y => decide (x ≤ y))) := by
  obtain ⟨h1, h2⟩ := sort_asc (rs.map Rn.file)
  exact ⟨h1, fun x => (h2 x).trans ⟨.inl, fun h => h.elim id (fun h => absurd rfl h.1)⟩⟩
theorem live_some {rs : List Rn} {lg : Int} (h : lg ≠ 0) : LiveP rs lg (Lib.compact ((rs.map Rn.file ++ [lg]).mergeSort fun x y => decide (x ≤ y))) := by
  obtain ⟨h1, h2⟩ := sort_asc (rs.map Rn.file ++ [lg])
  refine ⟨h1, fun x => (h2 x).trans ?_⟩
  rw [List.mem_append, List.mem_singleton]
  exact ⟨fun h3 => h3.elim .inl (fun e => .inr ⟨h, e⟩), fun h3 => h3.elim .inl (fun e => .inr e.2)⟩
set_option maxHeartbeats 2000000 in
set_option maxRecDepth 100000 in
theorem version_live {w : World} {A : Option Addr} {c : Nat} {rs : List Rn} (nx lg sq : Int) (h : kRn.C w A rs.length rs) (hn : rs.length ≤ 900000) :
    Calls Try.prog 19 #[.agg #[.slice A rs.length c, .int .i64 nx, .int .i64 lg, .int .u64 sq]] w (LiveQ rs lg w) := by
  obtain ⟨n, hnl⟩ : ∃ n, n = rs.length := ⟨_, rfl⟩
  rw [← hnl] at h hn ⊢
  have Hnl := Kp.mk hnl
  have H := Kp.mk h
  clear h hnl
  go_enter Try.func19, Try.ntmps19
  go_wp2
  go_loopw [3, 9] (fun v i wr => ∃ k : Nat, k ≤ n ∧ i = .int .i64 k ∧ Kp ((Kd.int .i64).R 3 wr w.heap.size (fun _ => True) v ((rs.take k).map Rn.file)) ∧ Kp (wr.heap[w.heap.size]? = some (.cells #[.slice A n c, .int .i64 nx, .int .i64 lg, .int .u64 sq] 27 (0, 0))) ∧ Kp (Below w.heap.size w wr)) (fun _ i _ => n - (intOf i).toNat)
  case atStart => exact ⟨0, Nat.zero_le _, rfl, ⟨Kd.R_nil _ _ _ _ _⟩, ⟨blk_new w _⟩, ⟨alloc_below w _⟩⟩
  case round =>
    obtain ⟨k, hk, rfl, HO, HX, HB⟩ := hrel
    by_cases hlt : k < n
    · obtain ⟨ad, A3, c3, A4, c4, rfl, d0, d1, d2, d3, d4, d5, _⟩ := rn_at (Kd.C_below H.out HB.out) k hlt
      have Hs := Kp.mk (take_map_succ (rs := rs) (k := k) (by have := Hnl.out; omega))
      obtain ⟨r, hr⟩ : ∃ r, rs.getD k zRn = r := ⟨_, rfl⟩
      rw [hr] at d0 d1 d2 d3 d4 d5 Hs
      clear hr
      obtain ⟨ys, hys⟩ : ∃ ys, ys = (rs.take k).map Rn.file := ⟨_, rfl⟩
      have Hyl : Kp (ys.length = k) := ⟨by rw [hys, List.length_map, List.length_take]; have := Hnl.out; omega⟩
      rw [← hys] at HO Hs
      clear hys
      have HWs := Kp.mk HB.out.size
      have HO2 := Kp.mk (Kd.R_alloc HO.out (.cells #[.int .i64 r.file, .int .i64 r.bytes, .int .i64 r.count, .slice A3 r.first.length c3, .slice A4 r.last.length c4, .int .u64 r.seq] 42))
      have HB2 := Kp.mk (HB.out.alloc HWs.out (.cells #[.int .i64 r.file, .int .i64 r.bytes, .int .i64 r.count, .slice A3 r.first.length c3, .slice A4 r.last.length c4, .int .u64 r.seq] 42))
      have Hsz := Kp.mk (show wr.heap.size + 1 = (wr.alloc (.cells #[.int .i64 r.file, .int .i64 r.bytes, .int .i64 r.count, .slice A3 r.first.length c3, .slice A4 r.last.length c4, .int .u64 r.seq] 42)).heap.size by simp)
      have HX2 := Kp.mk (blk_alloc HX.out (.cells #[.int .i64 r.file, .int .i64 r.bytes, .int .i64 r.count, .slice A3 r.first.length c3, .slice A4 r.last.length c4, .int .u64 r.seq] 42))
      go_wp2_with (at_builtin; refine Kd.R_append (Kd.int .i64) (w0 := w) w.heap.size rfl (.tmp 13) (.tmp 16) 29 3 (.int .i64 0) 8 rfl Try.underlying29 Try.infoInt rfl (by decide) (by omega) u3 ys r.file [.int .i64 r.file] (fun _ => True) (fun _ => False) rfl (congrArg (fun z => Value.slice (some ⟨z, 0, none⟩) 1 1) Hsz.out) rfl (fun _ hk => hk.elim) (fun _ _ => trivial) HO2.out HB2.out HB2.out.size (by rw [Hyl.out]; omega) ?_; intro v1 w1 hR hB hg hat; have HR := Kp.mk hR; have HB1 := Kp.mk hB; have HG := Kp.mk hg; clear hR hB hg hat)
      have hx := (HG.out.block _ (lt_of_block HX2.out) (fun e => Kd.R_ne HO2.out HX2.out (by decide) e)).trans HX2.out
      go_roundw
      case rel => exact ⟨k + 1, by omega, by go_num, ⟨by rw [Hs.out]; exact HR.out⟩, ⟨hx⟩, HB1⟩
      case measure => simp [intOf]; omega
    · have hv : Kp ((rs.take k).map Rn.file = rs.map Rn.file) := ⟨by rw [List.take_of_length_le (by have := Hnl.out; omega)]⟩
      rw [hv.out] at HO
      clear hv
      have HWs := Kp.mk HB.out.size
      have Hfl : Kp ((rs.map Rn.file).length = n) := ⟨by rw [List.length_map]; exact Hnl.out.symm⟩
      have b2 := cells_top HX.out 2 _ rfl
      by_cases h0 : lg = 0
      · subst h0
        go_wp2_with fail
        refine (sort_own HO.out HB.out (by rw [Hfl.out]; omega) HWs.out).mono ?_
        rintro e w1 ⟨rfl, hR1, hB1⟩
        have HR1 := Kp.mk hR1
        have HB1 := Kp.mk hB1
        clear hR1 hB1
        go_wp2_with fail
        refine (compact_own HR1.out HB1.out (by rw [List.length_mergeSort, Hfl.out]; omega) HB1.out.size).mono ?_
        rintro e w2 ⟨v2, rfl, hR2, hB2⟩
        have HR2 := Kp.mk hR2
        have HB2 := Kp.mk hB2
        clear hR2 hB2
        go_wp2_with fail
        go_ret
        exact ⟨_, _, rfl, HR2.out, live_none, HB2.out⟩
      · have h1 : (lg == 0) = false := by simpa using h0
        have h2 : (lg != 0) = true := by simpa using h0
        have H0 := Kp.mk h0
        obtain ⟨ys, hys⟩ : ∃ ys, ys = rs.map Rn.file := ⟨_, rfl⟩
        have Hys := Kp.mk hys
        rw [← hys] at HO Hfl
        clear hys
        go_wp2_with (at_builtin; refine Kd.R_append (Kd.int .i64) (w0 := w) w.heap.size rfl (.tmp 22) (.tmp 25) 29 3 (.int .i64 0) 8 rfl Try.underlying29 Try.infoInt rfl (by decide) (by omega) _ ys lg [.int .i64 lg] (fun _ => True) (fun _ => False) rfl rfl rfl (fun _ hk => hk.elim) (fun _ _ => trivial) HO.out HB.out HWs.out (by rw [Hfl.out]; omega) ?_; intro v1 w1 hR hB hg hat; have HR := Kp.mk hR; have HB1 := Kp.mk hB; clear hR hB hg hat)
        go_wp2_with fail
        refine (sort_own HR.out HB1.out (by rw [List.length_append, Hfl.out]; simp; omega) HB1.out.size).mono ?_
        rintro e w2 ⟨rfl, hR1, hB2⟩
        have HR1 := Kp.mk hR1
        have HB2 := Kp.mk hB2
        clear hR1 hB2
        go_wp2_with fail
        refine (compact_own HR1.out HB2.out (by rw [List.length_mergeSort, List.length_append, Hfl.out]; simp; omega) HB2.out.size).mono ?_
        rintro e w3 ⟨v2, rfl, hR2, hB3⟩
        have HR2 := Kp.mk hR2
        have HB3 := Kp.mk hB3
        clear hR2 hB3
        go_wp2_with fail
        go_ret
        exact ⟨_, _, rfl, HR2.out, by rw [Hys.out]; exact live_some H0.out, HB3.out⟩
end Go.Proofs.Ytgfkpddmjcgceaa.Kx
