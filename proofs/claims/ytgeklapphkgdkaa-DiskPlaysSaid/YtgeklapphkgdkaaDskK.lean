import Derived.Test.YtgeklapphkgdkaaDskJ
import Derived.Deep.RegionWith
set_option linter.unusedVariables false
set_option linter.unusedSimpArgs false
namespace Go.Proofs.Ytgeklapphkgdkaa.Dsk
open Go.RowKit Go.Maps
attribute [local go_sem] max2_int min2_int max_two min_two

def DS.read (σ : DS) (nm : ByteArray) (at_ n : Int) : Int × DS × List Int :=
  let r := σ.begin (nameOk nm)
  if r.1 = 0 then
    match lookA nm.data.toList r.2.files with
    | none => (8, r.2, [])
    | some f => if at_ < 0 ∨ n < 0 ∨ (f.1.length : Int) < at_ then (1, r.2, []) else (0, r.2, (f.1.drop at_.toNat).take n.toNat)
  else (r.1, r.2, [])
def ReadP (B g : Nat) (σ : DS) (S : Nat → Prop) (nm : ByteArray) (at_ n : Int) (w : World) (e : Ending) (w' : World) : Prop :=
  ∃ A' k c', e = .returned (.tuple #[.slice A' k c', .int .i64 (σ.read nm at_ n).1]) ∧ w'.ownsRow w.heap.size 5 1 (.slice A' k c') k (nums .u8 (σ.read nm at_ n).2.2) ∧ IsDisk w' B g (σ.read nm at_ n).2.1 S ∧ Fr w w' S

theorem rd_cut {w W : World} {B n cr a m k : Nat} {Ar : Option Addr} {xs : List Int} (h : w.ownsRow B 5 1 (.slice Ar n cr) n (nums .u8 xs)) (hx : xs.length = n) (hW : ∀ j : Nat, W.heap[j]? = w.heap[j]?) (hn : n ≤ 16777216) (ha : a ≤ n) (hca : ¬ cr = a) (hk : k = min m (n - a)) :
    Rd W .u8 (Ar.map fun x => x.add a) k (cr - a) ((xs.drop a).take m) := by
  rcases h.2 with ⟨e1, e2⟩ | ⟨q, cap, cur, e1, hB, hh, h3, h4, h5, h6⟩
  · exfalso
    injection e1 with e1 e3 e4
    omega
  · injection e1 with e1 e3 e4
    subst e1 e4
    refine ⟨by rw [List.length_take, List.length_drop, hx]; omega, by omega, (fun e => by simp at e), fun hp => ⟨_, rfl, fun j hj => ?_⟩⟩
    have hc := h.cells (g := q) rfl (a + j) (.int .u8 (((xs.drop a).take m).getD j 0)) (by
      have h1 : a + j < xs.length := by omega
      have h2 : j < ((xs.drop a).take m).length := by rw [List.length_take, List.length_drop]; omega
      rw [List.getD_eq_getElem?_getD, List.getElem?_eq_getElem h2]
      simp [nums, List.getElem?_map, List.getElem?_eq_getElem h1])
    rw [Addr.add_lit, Nat.zero_add] at hc
    have e : ((⟨q, 0, none⟩ : Addr).add a).add j = ⟨q, a + j, none⟩ := by rw [Addr.add_lit, Addr.add_lit, Nat.zero_add]
    rw [e]
    simpa [World.cell?, hW] using hc

set_option maxHeartbeats 4000000 in
set_option maxRecDepth 100000 in
theorem read_any (w : World) (B g : Nat) (σ : DS) (S : Nat → Prop) (nm : ByteArray) (at_ n : Int) (h : IsDisk w B g σ S) (hs : nm.size ≤ 100000) (ha : -9223372036854775808 ≤ at_ ∧ at_ ≤ 9223372036854775807) (hn : -9223372036854775808 ≤ n ∧ n ≤ 9223372036854775807) :
    Calls Try.prog 18 #[.pointer (some ⟨g, 0, none⟩), .string nm, .int .i64 at_, .int .i64 n] w (ReadP B g σ S nm at_ n w) := by
  have Ho := Kp.mk (open1 w B g σ S nm h hs)
  have HS := Kp.mk h.gS
  obtain ⟨ha1, ha2⟩ := ha
  obtain ⟨hn1, hn2⟩ := hn
  clear h
  go_enter Try.func18, Try.ntmps18
  go_wp2_with fail
  refine Ho.out.mono ?_
  rintro e w1 ⟨hf, L, mb, A, c, hd, hcase⟩
  have HF := Kp.mk (fr_g (alloc_below w _) hf HS.out)
  rcases hcase with ⟨he, rfl⟩ | ⟨he, ⟨hn, rfl⟩ | ⟨x, hx, rfl⟩⟩
  · have Hr : Kp (σ.read nm at_ n = ((σ.begin (nameOk nm)).1, (σ.begin (nameOk nm)).2, [])) := ⟨by unfold DS.read; simp only; rw [if_neg he]⟩
    have hb : (((σ.begin (nameOk nm)).1) != 0) = true := by simpa using he
    have HD := Kp.mk hd
    clear hd hf Ho he
    generalize (σ.begin (nameOk nm)) = r at *
    obtain ⟨e0, σ1⟩ := r
    simp only at hb HD
    go_wp2
    go_ret2
    refine ⟨none, 0, 0, ?_⟩
    rw [Hr.out]
    exact ⟨rfl, World.ownsRow_nil _ _ _ _, ⟨L, mb, A, c, HD.out⟩, HF.out⟩
  · have Hr : Kp (σ.read nm at_ n = (8, (σ.begin (nameOk nm)).2, [])) := ⟨by unfold DS.read; simp only; rw [if_pos he, hd.look, hn]; rfl⟩
    have HD := Kp.mk hd
    clear hd hf Ho he hn
    go_wp2
    go_ret2
    refine ⟨none, 0, 0, ?_⟩
    rw [Hr.out]
    exact ⟨rfl, World.ownsRow_nil _ _ _ _, ⟨L, mb, A, c, HD.out⟩, HF.out⟩
  · have hm := mem_find hx
    have hfile := hd.file x hm.1
    obtain ⟨Ar, cr, hrow⟩ := row_slice hfile.2.1
    have b0 := cells_top hfile.1 0 _ rfl
    rw [hrow] at b0
    have hle := hfile.2.2.2.2.2.2
    have hcap := row_cap (hrow ▸ hfile.2.1)
    have Hr : Kp (σ.read nm at_ n = if at_ < 0 ∨ n < 0 ∨ (x.b.length : Int) < at_ then (1, (σ.begin (nameOk nm)).2, []) else (0, (σ.begin (nameOk nm)).2, (x.b.drop at_.toNat).take n.toNat)) :=
      ⟨by unfold DS.read; simp only; rw [if_pos he, hd.look, hx]; rfl⟩
    have HD := Kp.mk hd
    have Hrow := Kp.mk hrow
    have Hfile := Kp.mk hfile
    clear hd hf Ho he hx hfile hrow hm
    by_cases hbad : at_ < 0 ∨ n < 0 ∨ (x.b.length : Int) < at_
    · have hr2 := Hr.out
      rw [if_pos hbad] at hr2
      have Hr2 := Kp.mk hr2
      clear hr2 Hr
      all_goals
        rcases (show at_ < 0 ∨ (0 ≤ at_ ∧ n < 0) ∨ (0 ≤ at_ ∧ 0 ≤ n ∧ (x.b.length : Int) < at_) by omega) with h1 | h1 | h1
      all_goals clear hbad
      all_goals try (exfalso; omega)
      all_goals go_wp2
      all_goals
        go_ret2
        refine ⟨none, 0, 0, ?_⟩
        rw [Hr2.out]
        exact ⟨rfl, World.ownsRow_nil _ _ _ _, ⟨L, mb, A, c, HD.out⟩, HF.out⟩
    · have hr2 := Hr.out
      rw [if_neg hbad] at hr2
      have Hr2 := Kp.mk hr2
      clear hr2 Hr
      obtain ⟨a, rfl⟩ := Int.eq_ofNat_of_zero_le (show 0 ≤ at_ by omega)
      obtain ⟨m, rfl⟩ := Int.eq_ofNat_of_zero_le (show 0 ≤ n by omega)
      have hal : a ≤ x.b.length := by omega
      clear hbad
      have HK : Kp (∃ k, k = min m (x.b.length - a)) := ⟨⟨_, rfl⟩⟩
      obtain ⟨k, hk⟩ := HK.out
      have Hk := Kp.mk hk
      have hlen2 : nums .u8 ((x.b.drop a).take m) = nums .u8 ((x.b.drop a).take m) := rfl
      have W1 : IntKind.i64.wrap ((x.b.length : Int) - a) = (x.b.length : Int) - a := IntWalk.i64_in _ (by omega)
      have W2 : IntKind.i64.wrap ((a : Int) + min (m : Int) ((x.b.length : Int) - a)) = (a : Int) + min (m : Int) ((x.b.length : Int) - a) := IntWalk.i64_in _ (by omega)
      have W3 : (0 : Int) ≤ (a : Int) + min (m : Int) ((x.b.length : Int) - a) := by omega
      have W4 : ((a : Int) + min (m : Int) ((x.b.length : Int) - a)).toNat = a + k := by omega
      have W5 : a + k ≤ cr := by omega
      clear hk
      have fin : Kp (∀ (A' : Option Addr) (c' : Nat) (w2 : World) (n1 : Nat), w2.ownsRow (w1.drewN n1).heap.size 5 1 (.slice A' k c') k (nums .u8 ((x.b.drop a).take m)) → Below (w1.drewN n1).heap.size (w1.drewN n1) w2 → ReadP B g σ S nm a m w (.returned (.tuple #[.slice A' k c', .int .i64 0])) w2) := ⟨by
        intro A' c' w2 n1 hown hb2
        refine ⟨A', k, c', by rw [Hr2.out], ?_, ?_, ?_⟩
        · rw [Hr2.out]
          refine ⟨hown.1, ?_⟩
          rcases hown.2 with e | ⟨q, cap, cur, e1, hB, r⟩
          · exact .inl e
          · exact .inr ⟨q, cap, cur, e1, Nat.le_trans HF.out.size hB, r⟩
        · rw [Hr2.out]
          exact ⟨L, mb, A, c, HD.out.heap (fun j _ hj => hb2.block j hj)⟩
        · exact (HF.out.drewN n1).below hb2⟩
      by_cases hca : cr = a
      · have hk0 : k = 0 := by omega
        have Hx0 : Kp ((x.b.drop a).take m = []) := ⟨by rw [List.drop_eq_nil_of_le (by omega)]; simp⟩
        subst hk0
        subst hca
        go_wp2
        go_region_with (go_at_call 31; refine (clone_u8 w1.drew Ar 0 0 [] ⟨rfl, by omega, fun _ => ⟨rfl, rfl⟩, fun h => absurd h (by omega)⟩ (by omega)).mono ?_; rintro e w2 ⟨A', c', rfl, hown, hb2⟩)
        all_goals go_wp2
        all_goals
          go_ret2
          exact fin.out A' c' w2 1 (by rw [Hx0.out]; exact hown) hb2
      · have Hrd := Kp.mk (rd_cut (W := w1.drew) (m := m) (k := k) (Hrow.out ▸ Hfile.out.2.1) rfl (fun _ => rfl) hle hal hca Hk.out)
        go_wp2
        go_region_with (go_at_call 31; refine (clone_u8 w1.drew _ _ _ _ Hrd.out (by omega)).mono ?_; rintro e w2 ⟨A', c', rfl, hown, hb2⟩)
        all_goals go_wp2
        all_goals
          go_ret2
          exact fin.out A' c' w2 1 hown hb2
end Go.Proofs.Ytgeklapphkgdkaa.Dsk
