import Derived.Test.YtinffeffffligaaBlT
import Derived.Deep.RegionHeld3
set_option linter.unusedVariables false
set_option linter.unusedSimpArgs false
namespace Go.Proofs.Ytinffeffffligaa.Bas
open Go.RowKit Go.Maps

/-! ### How great a block can be -/
/-- Entries that may be packed, one by one. -/
structure GoodE (es : List En) : Prop where
  right : ∀ j, j < es.length → RightE (es.getD j enD)
  seq : ∀ j, j < es.length → 0 ≤ (es.getD j enD).k.seq
  byt : ∀ j, j < es.length → Byt (es.getD j enD).k.key ∧ Byt (es.getD j enD).val
  len : es.length ≤ 10000
theorem lastB_len {es : List En} (h : GoodE es) {i : Nat} (hi : i ≤ es.length) : (lastB es i).length ≤ 264 := by
  unfold lastB
  split
  · simp
  · have := (h.right (i - 1) (by omega)).key.len
    rw [kb_len]; omega
theorem lastB_byt {es : List En} (h : GoodE es) {i : Nat} (hi : i ≤ es.length) : Byt (lastB es i) := by
  unfold lastB
  split
  · intro x hx; cases hx
  · exact kb_byt (h.byt (i - 1) (by omega)).1
theorem comB_le (s : Nat) (es : List En) (i : Nat) : comB s es i ≤ (kb (es.getD i enD).k).length := by
  unfold comB
  split
  · omega
  · exact (comN_le _ _).2
theorem kbl_le {es : List En} (h : GoodE es) {i : Nat} (hi : i < es.length) : (kb (es.getD i enD).k).length ≤ 264 := by
  have := (h.right i hi).key.len
  rw [kb_len]; omega
theorem encE_len {last k v : List Int} {c : Nat} (hk : k.length ≤ 264) (hc : c ≤ k.length) (hv : v.length ≤ 4096) : (encE last k c v).length ≤ 4390 := by
  unfold encE
  have h1 := varB_len10 (x := c) (by omega)
  have h2 := varB_len10 (x := k.length - c) (by omega)
  have h3 := varB_len10 (x := v.length) (by omega)
  simp only [List.length_append, List.length_drop]
  omega
theorem encE_byt {last k v : List Int} {c : Nat} (hk : Byt k) (hv : Byt v) : Byt (encE last k c v) :=
  byt_append (byt_append (byt_append (byt_append (varB_byt _) (varB_byt _)) (varB_byt _)) (byt_drop hk _)) hv
theorem outB_len {es : List En} (h : GoodE es) (s : Nat) : ∀ i, i ≤ es.length → (outB s es i).length ≤ i * 4390
  | 0, _ => by simp [outB]
  | i + 1, hi => by
    have h1 := outB_len h s i (by omega)
    have h2 := encE_len (last := lastB es i) (kbl_le h (show i < es.length by omega)) (comB_le s es i) (h.right i (by omega)).len
    show (outB s es i ++ _).length ≤ _
    rw [List.length_append]
    omega
theorem outB_byt {es : List En} (h : GoodE es) (s : Nat) : ∀ i, i ≤ es.length → Byt (outB s es i)
  | 0, _ => fun x hx => by cases hx
  | i + 1, hi => byt_append (outB_byt h s i (by omega)) (encE_byt (kb_byt (h.byt i (by omega)).1) (h.byt i (by omega)).2)
theorem low4s_len (l : List Nat) : (low4s l).length = l.length * 4 := by
  induction l with
  | nil => rfl
  | cons a r ih =>
    have : low4s (a :: r) = lowB a 4 ++ low4s r := rfl
    rw [this, List.length_append, ih, lowB_len, List.length_cons]; omega
theorem low4s_byt (l : List Nat) : Byt (low4s l) := fun x hx => by
  obtain ⟨y, _, hy⟩ := List.mem_flatMap.1 hx
  exact lowB_byt y 4 x hy
theorem low4s_snoc (l : List Nat) (x : Nat) : low4s (l ++ [x]) = low4s l ++ lowB x 4 := by simp [low4s]
theorem endsB_len (s : Nat) (es : List En) : ∀ i, (endsB s es i).length ≤ i
  | 0 => Nat.le_refl _
  | i + 1 => by
    have := endsB_len s es i
    unfold endsB
    split
    · rw [List.length_append, List.length_singleton]; omega
    · omega
theorem bodyB_byt {es : List En} (h : GoodE es) (s : Nat) : Byt (bodyB s es) := byt_append (byt_append (outB_byt h s _ (Nat.le_refl _)) (low4s_byt _)) (lowB_byt _ _)
theorem bodyB_len {es : List En} (h : GoodE es) (s : Nat) : (bodyB s es).length ≤ 44000004 := by
  unfold bodyB
  have h1 := outB_len h s _ (Nat.le_refl es.length)
  have h2 := endsB_len s es es.length
  have h3 := h.len
  rw [List.length_append, List.length_append, low4s_len, lowB_len]
  omega
theorem fr_belowB {w w' : World} {B : Nat} (h : Below B w w') : Fr w w' (fun k => B ≤ k) := ⟨h.os, h.tape, h.output, h.size, fun k hk hn => h.block k (by omega)⟩
theorem cell_belowB {w w' : World} {B : Nat} {b off : Nat} {v : Value} (h : Below B w w') (hb : b < B) (hc : w.cell? ⟨b, off, none⟩ = some v) : w'.cell? ⟨b, off, none⟩ = some v := (fr_belowB h).cell hc (by show ¬ B ≤ b; omega)
theorem lastB_succ (es : List En) (i : Nat) : lastB es (i + 1) = kb (es.getD i enD).k := by unfold lastB; rw [if_neg (by omega), Nat.add_sub_cancel]
set_option maxHeartbeats 8000000 in
set_option maxRecDepth 100000 in
theorem ref_buildl {w : World} {A : Option Addr} {n c : Nat} {es : List En} (h : Es w A n c es) (hg : GoodE es) {s : Nat} (hs1 : 1 ≤ s) (hs2 : s ≤ 100) :
    Calls Try.prog 33 #[.slice A n c, .int .i64 (s : Nat)] w (NewP (buildB s es) w) := by
  have hm := hg.len
  have hl := h.len
  rw [hl] at hm
  have H := Kp.mk h
  have HG := Kp.mk hg
  clear h hg
  go_enter Try.func33, Try.ntmps33
  go_wp2_with fail
  go_loopw [9, 5, 6, 7, 8] (fun i vb ve vl vn wr => ∃ (j : Nat) (Ab Ae Al : Option Addr) (nb cb ne ce nl cl : Nat), j ≤ n ∧ i = .int .i64 j ∧ vb = .slice Ab nb cb ∧ ve = .slice Ae ne ce ∧ vl = .slice Al nl cl ∧ vn = .int .i64 ((endsB s es j).length : Nat) ∧
      Kp (Nu .u8 5 w.heap.size wr (.slice Ab nb cb) (outB s es j)) ∧ Kp (Nu .u8 5 w.heap.size wr (.slice Ae ne ce) (low4s (endsB s es j))) ∧ Kp (Nu .u8 5 w.heap.size wr (.slice Al nl cl) (lastB es j)) ∧ Kp (Below w.heap.size w wr)) (fun i _ _ _ _ _ => n - (intOf i).toNat)
  case atStart => exact ⟨0, none, none, none, 0, 0, 0, 0, 0, 0, Nat.zero_le _, rfl, rfl, rfl, rfl, rfl, ⟨Nu.nil _ _ _ _⟩, ⟨Nu.nil _ _ _ _⟩, ⟨Nu.nil _ _ _ _⟩, ⟨Below.refl _ _⟩⟩
  case round =>
    obtain ⟨j, Ab, Ae, Al, nb, cb, ne, ce, nl, cl, hj, rfl, rfl, rfl, rfl, rfl, HNb, HNe, HNl, HB⟩ := hrel
    by_cases hlt : j < n
    · obtain ⟨b, off, rfl, hc⟩ := (H.out.below HB.out).cell (by omega)
      obtain ⟨us, hu, hu'⟩ := hc j hlt
      obtain ⟨en, hen⟩ : ∃ en, en = es.getD j enD := ⟨_, rfl⟩
      rw [← hen] at hu
      obtain ⟨A0, n0, c0, A0', n0', c0', rfl, a1, a2, a3, a4⟩ := hu
      have x0 : wr.cell? ⟨b, off + j * 4, none⟩ = some (.slice A0 n0 c0) := hu' 0 _ rfl
      have x1 : wr.cell? ⟨b, off + j * 4 + 1, none⟩ = some (.int .u64 en.k.seq) := hu' 1 _ rfl
      have x2 : wr.cell? ⟨b, off + j * 4 + 2, none⟩ = some (.int .i64 en.k.kind) := hu' 2 _ rfl
      have x3 : wr.cell? ⟨b, off + j * 4 + 3, none⟩ = some (.slice A0' n0' c0') := hu' 3 _ rfl
      have hkey : Calls Try.prog 46 #[.agg #[.slice A0 n0 c0, .int .u64 en.k.seq, .int .i64 en.k.kind]] wr (NewP (kb en.k) wr) :=
        ref_keybytesN ⟨A0, n0, c0, rfl, a1, a2⟩ (by rw [hen]; exact (HG.out.right j (by omega)).key) (by rw [hen]; exact HG.out.seq j (by omega))
      have hbl := outB_len HG.out s j (by omega)
      have hel := endsB_len s es j
      have hkl := kbl_le HG.out (show j < es.length by omega)
      have hcl := comB_le s es j
      have hvl := (HG.out.right j (by omega)).len
      rw [← hen] at hkl hcl hvl
      have hvn : en.val.length = n0' := a3.len
      obtain ⟨cN, hcN⟩ : ∃ cN, cN = comB s es j := ⟨_, rfl⟩
      rw [← hcN] at hcl
      obtain ⟨kl, hkl'⟩ : ∃ kl, kl = (kb en.k).length := ⟨_, rfl⟩
      rw [← hkl'] at hkl hcl
      obtain ⟨rl, hrl⟩ : ∃ rl, rl = kl - cN := ⟨_, rfl⟩
      have HOut : Kp (outB s es (j + 1) = outB s es j ++ varB cN ++ varB rl ++ varB n0' ++ (kb en.k).drop cN ++ en.val) := ⟨by
        show outB s es j ++ encE _ _ _ _ = _
        unfold encE
        rw [← hen, ← hcN, ← hkl', ← hrl, hvn]
        simp only [List.append_assoc]⟩
      have HLast : Kp (lastB es (j + 1) = kb en.k) := ⟨by rw [lastB_succ, hen]⟩
      have HKey := Kp.mk hkey
      have HVal := Kp.mk a3
      have HCom := Kp.mk hcN
      have Hen := Kp.mk hen
      have Hkl := Kp.mk hkl'
      have Hbl : Kp ((outB s es j).length ≤ 43900000) := ⟨by omega⟩
      have hnv : n0' ≤ 4096 := by omega
      clear hc hu' a1 a2 a3 a4 hkey hcN hen hkl' hvn
      have m1 : (cN : Int) % 18446744073709551616 = (cN : Int) := by omega
      have m2 : IntKind.i64.wrap ((kl : Int) - (cN : Int)) = (rl : Int) := (IntWalk.i64_in _ (by omega)).trans (by omega)
      have m3 : (rl : Int) % 18446744073709551616 = (rl : Int) := by omega
      have m4 : (n0' : Int) % 18446744073709551616 = (n0' : Int) := by omega
      by_cases hz : j % s = 0
      · have hrem : (j : Int).tmod (s : Int) = 0 := by have := Int.ofNat_tmod j s; rw [hz] at this; simpa using this.symm
        have hc0 : cN = 0 := by rw [HCom.out]; unfold comB; rw [if_pos hz]
        have hrlk : rl = kl := by omega
        have m6 : (kl : Int) % 18446744073709551616 = (kl : Int) := by omega
        have HOut2 : Kp (outB s es (j + 1) = outB s es j ++ varB 0 ++ varB kl ++ varB n0' ++ (kb en.k) ++ en.val) := ⟨by rw [HOut.out, hc0, hrlk, List.drop_zero]⟩
        have HEnd : Kp (endsB s es (j + 1) = endsB s es j ++ [(outB s es j).length]) := ⟨by show (if j % s = 0 then _ else _) = _; rw [if_pos hz]⟩
        clear m1 m2 m3 hz HOut hrlk hcl hrl HCom HNl hc0
        have hnb := (HNb.out.rd (by have := Hbl.out; omega)).1
        have m5 : (nb : Int) % 18446744073709551616 = (nb : Int) := by rw [hnb]; have := Hbl.out; omega
        have Hnb := Kp.mk hnb
        have HEl : Kp ((low4s (endsB s es j)).length ≤ 40000) := ⟨by rw [low4s_len]; omega⟩
        clear hnb hbl hvl
        have x30 := x3
        go_wp2_with (first
          | (go_at_call 46; go_must (refine HKey.out.mono ?_); rintro e w1 ⟨Ak, nk, ck, rfl, h1, h2⟩; have hnk := (h1.rd (by have := Hkl.out; omega)).1; rw [← Hkl.out] at hnk; subst hnk; have HNk1 := Kp.mk h1; have HB1 := Kp.mk (HB.out.trans (h2.mono HB.out.size)); have Z1 := Kp.mk h2.size; have x31 := cell_kept h2 x3; have HVal1 := Kp.mk (HVal.out.below h2); have HNb1 := Kp.mk (HNb.out.below h2); have HNe1 := Kp.mk (HNe.out.below h2); clear h1 h2 x0 x1 x2)
          | (go_at_call 47; refine (ref_lowN (HNe1.out.rd (by have := HEl.out; omega)).2.1 (x := nb) (by have := Hnb.out; have := Hbl.out; omega) (m := 4) (by omega) (by have := (HNe1.out.rd (by have := HEl.out; omega)).1; have := HEl.out; omega)).mono ?_; rintro e w2 ⟨Ae2, ne2, ce2, rfl, h1, h2⟩; have HNe2 := Kp.mk (h1.lower HB1.out.size); have HB2 := Kp.mk (HB1.out.trans (h2.mono HB1.out.size)); have x32 := cell_kept h2 x31; have HVal2 := Kp.mk (HVal1.out.below h2); have HNb2 := Kp.mk (HNb1.out.below h2); have HNk2 := Kp.mk (HNk1.out.below h2); clear h1 h2)
          | (go_at_call_of 49 (Value.slice Ab nb cb); have hrd := HNb2.out.rd (by (try simp only [List.length_append]); have := Hbl.out; have v0 := varB_len10 (x := 0) (by omega); have v1 := varB_len10 (x := nk) (by omega); have v2 := varB_len10 (x := n0') (by omega); omega); have hle : (((outB s es j)).length) ≤ 1000000000 := (by (try simp only [List.length_append]); have := Hbl.out; have v0 := varB_len10 (x := 0) (by omega); have v1 := varB_len10 (x := nk) (by omega); have v2 := varB_len10 (x := n0') (by omega); omega); have hcall := ref_putN hrd.2.1 (x := 0) (by omega) (by rw [hrd.1]; exact hle); clear hrd hle; refine hcall.mono ?_; clear hcall; rintro e w3 ⟨Ab3, nb3, cb3, rfl, h1, h2⟩; have HNb3 := Kp.mk h1; have Zb3 := Kp.mk h2.size; have HB3 := Kp.mk (HB2.out.trans (h2.mono HB2.out.size)); have x33 := cell_kept h2 x32; have HVal3 := Kp.mk (HVal2.out.below h2); have HNk3 := Kp.mk (HNk2.out.below h2); have HNe3 := Kp.mk (HNe2.out.below h2); clear h1 h2)
          | (go_at_call_of 49 (Value.slice Ab3 nb3 cb3); have hrd := HNb3.out.rd (by (try simp only [List.length_append]); have := Hbl.out; have v0 := varB_len10 (x := 0) (by omega); have v1 := varB_len10 (x := nk) (by omega); have v2 := varB_len10 (x := n0') (by omega); omega); have hle : (((outB s es j ++ varB 0)).length) ≤ 1000000000 := (by (try simp only [List.length_append]); have := Hbl.out; have v0 := varB_len10 (x := 0) (by omega); have v1 := varB_len10 (x := nk) (by omega); have v2 := varB_len10 (x := n0') (by omega); omega); have hcall := ref_putN hrd.2.1 (x := nk) (by omega) (by rw [hrd.1]; exact hle); clear hrd hle; refine hcall.mono ?_; clear hcall; rintro e w4 ⟨Ab4, nb4, cb4, rfl, h1, h2⟩; have HNb4 := Kp.mk h1; have Zb4 := Kp.mk h2.size; have HB4 := Kp.mk (HB3.out.trans (h2.mono HB3.out.size)); have x34 := cell_kept h2 x33; have HVal4 := Kp.mk (HVal3.out.below h2); have HNk4 := Kp.mk (HNk3.out.below h2); have HNe4 := Kp.mk (HNe3.out.below h2); clear h1 h2)
          | (go_at_call_of 49 (Value.slice Ab4 nb4 cb4); have hrd := HNb4.out.rd (by (try simp only [List.length_append]); have := Hbl.out; have v0 := varB_len10 (x := 0) (by omega); have v1 := varB_len10 (x := nk) (by omega); have v2 := varB_len10 (x := n0') (by omega); omega); have hle : (((outB s es j ++ varB 0 ++ varB nk)).length) ≤ 1000000000 := (by (try simp only [List.length_append]); have := Hbl.out; have v0 := varB_len10 (x := 0) (by omega); have v1 := varB_len10 (x := nk) (by omega); have v2 := varB_len10 (x := n0') (by omega); omega); have hcall := ref_putN hrd.2.1 (x := n0') (by omega) (by rw [hrd.1]; exact hle); clear hrd hle; refine hcall.mono ?_; clear hcall; rintro e w5 ⟨Ab5, nb5, cb5, rfl, h1, h2⟩; have HNb5 := Kp.mk h1; have Zb5 := Kp.mk h2.size; have HB5 := Kp.mk (HB4.out.trans (h2.mono HB4.out.size)); have x35 := cell_kept h2 x34; have HVal5 := Kp.mk (HVal4.out.below h2); have HNk5 := Kp.mk (HNk4.out.below h2); have HNe5 := Kp.mk (HNe4.out.below h2); clear h1 h2))
        have hbx : b < w4.heap.size := World.block_lt_of_cell? w4 _ x34
        have HD5 : Kp (Below w5.heap.size w5 w5.drew) := ⟨(Below.refl _ _).drew⟩
        have x3d := cell_kept HD5.out x35
        have HNb5d := Kp.mk (HNb5.out.below HD5.out)
        have hOl : (outB s es j ++ varB 0 ++ varB nk ++ varB n0').length ≤ 43900030 := by simp only [List.length_append]; have := Hbl.out; have v0 := varB_len10 (x := 0) (by omega); have v1 := varB_len10 (x := nk) (by omega); have v2 := varB_len10 (x := n0') (by omega); omega
        have hkle : (kb en.k).length ≤ 264 := by have := Hkl.out; omega
        have HRk : Kp (Rd w5.drew .u8 Ak nk ck (kb en.k)) := ⟨((HNk5.out.below HD5.out).rd (by omega)).2.1⟩
        have hck := HNk5.out.cap
        have HVd := Kp.mk (HVal5.out.below HD5.out)
        have HNed := Kp.mk (HNe5.out.below HD5.out)
        have HNkd := Kp.mk (HNk5.out.below HD5.out)
        have HOl := Kp.mk hOl
        have HKle := Kp.mk hkle
        have HEown : Kp (∀ q, (Value.slice Ae2 ne2 ce2).ownBlock = some q → q < w4.heap.size) := ⟨HNe4.out.lt⟩
        have HKown : Kp (∀ q, (Value.slice Ak nk ck).ownBlock = some q → q < w4.heap.size) := ⟨HNk4.out.lt⟩
        have HVlt : Kp (∀ ad, A0' = some ad → 0 < n0' → ad.block < w4.heap.size) := ⟨HVal4.out.lt⟩
        have Hbx := Kp.mk hbx
        have HB5d : Kp (Below w.heap.size w w5.drew) := ⟨HB5.out.trans (HD5.out.mono HB5.out.size)⟩
        have Hw4 : Kp (w.heap.size ≤ w4.heap.size) := ⟨HB4.out.size⟩
        have Hw45 : Kp (w4.heap.size ≤ w5.drew.heap.size) := ⟨Nat.le_trans Zb5.out HD5.out.size⟩
        have Hml : Kp (nk ≤ 264) := ⟨by have := HNk5.out.rd (by omega); omega⟩
        have Hnv : Kp (n0' ≤ 4096) := ⟨hnv⟩
        clear x3 x30 x31 x32 x33 x34 x35 hbx hOl hkle HNb HNb1 HNb2 HNb3 HNb4 HNe HNe1 HNk1 HNk2 HNk3 HNk4 HVal HVal1 HVal2 HVal3 HVal4
        have HL1 : Kp (((outB s es j ++ varB 0 ++ varB nk ++ varB n0').length + nk) * 1 ≤ 140737488355328) := ⟨by have := HOl.out; have := Hml.out; omega⟩
        have HL2 : Kp ((((outB s es j ++ varB 0 ++ varB nk ++ varB n0') ++ (kb en.k)).length + n0') * 1 ≤ 140737488355328) := ⟨by rw [List.length_append]; have := HOl.out; have := Hnv.out; have := HKle.out; have : ((kb en.k)).length ≤ 264 := (by first | exact HKle.out | (rw [List.length_drop]; omega)); omega⟩
        have HVk : Kp (∀ W, Below w4.heap.size w5.drew W → Rd W .u8 A0' n0' c0' en.val) := ⟨fun W hW => HVd.out.kept (fr_belowB hW) (fun ad h1 h2 h3 => by have := HVlt.out ad h1 h2; omega)⟩
        go_region_held3 (fun W => W.cell? ⟨b, off + j * 4 + 3, none⟩ = some (.slice A0' n0' c0')) (first | go_keep | exact x3d | exact x36 | exact x37)
          (first | ((refine step_append_nu (w := w5.drew) rfl (.tmp 58) (.tmp 61) 25 5 .u8 1 w4.heap.size rfl Try.underlying25 Try.infoU8 Nat.one_pos (.slice Ab5 nb5 cb5) nk ck (outB s es j ++ varB 0 ++ varB nk ++ varB n0') (kb en.k) Ak rfl rfl HNb5d.out HRk.out HL1.out Hw45.out ?_; intro A6 n6 c6 w6 h1 h2 h3; have HF6 := Kp.mk h3; have HNb6 := Kp.mk h1; have x36 := cell_belowB h3 Hbx.out x3d; clear h1 h2 h3)) | ((refine step_append_nu (w := w6) rfl (.tmp 62) (.tmp 67) 25 5 .u8 1 w4.heap.size rfl Try.underlying25 Try.infoU8 Nat.one_pos (.slice A6 n6 c6) n0' c0' ((outB s es j ++ varB 0 ++ varB nk ++ varB n0') ++ (kb en.k)) en.val A0' rfl rfl HNb6.out (HVk.out w6 HF6.out) HL2.out (Nat.le_trans Hw45.out HF6.out.size) ?_; intro A7 n7 c7 w7 h1 h2 h3; have HF7 := Kp.mk (HF6.out.trans h3); have HNb7 := Kp.mk h1; have x37 := cell_belowB h3 Hbx.out x36; clear h1 h2 h3)))
        have HBe : Kp (Below w.heap.size w w7) := ⟨HB5d.out.trans (HF7.out.mono Hw4.out)⟩
        have HNe7 := Kp.mk (HNed.out.kept (fr_belowB HF7.out) (fun q hq hS => by have := HEown.out q hq; omega))
        have HNk7 := Kp.mk (HNkd.out.kept (fr_belowB HF7.out) (fun q hq hS => by have := HKown.out q hq; omega))
        have HNr : Kp (Nu .u8 5 w.heap.size w7 (.slice A7 n7 c7) (outB s es (j + 1))) := ⟨by have := HNb7.out.lower Hw4.out; rw [HOut2.out]; simpa only [List.append_assoc] using this⟩
        have HNer : Kp (Nu .u8 5 w.heap.size w7 (.slice Ae2 ne2 ce2) (low4s (endsB s es (j + 1)))) := ⟨by rw [HEnd.out, low4s_snoc, ← Hnb.out]; exact HNe7.out⟩
        have HEl2 : Kp ((endsB s es (j + 1)).length = (endsB s es j).length + 1) := ⟨by rw [HEnd.out, List.length_append]; rfl⟩
        have HNlr : Kp (Nu .u8 5 w.heap.size w7 (.slice Ak nk ck) (lastB es (j + 1))) := ⟨by rw [HLast.out]; exact HNk7.out.lower (Nat.le_trans HB.out.size (Nat.le_refl _))⟩
        clear HNb5 HNb5d HNb6 HNb7 HNe2 HNe3 HNe4 HNe5 HNed HNk5 HNkd HVal5 HVd HOut2
        go_wp2_with fail
        go_roundw
        case rel => exact ⟨j + 1, A7, Ae2, Ak, n7, c7, ne2, ce2, nk, ck, by omega, by go_num, rfl, rfl, rfl, by rw [HEl2.out]; go_num, HNr, HNer, HNlr, HBe⟩
        case measure => simp [intOf]; omega
      · obtain ⟨r, hr⟩ : ∃ r : Nat, (j : Int).tmod (s : Int) = (r : Int) := ⟨j % s, (Int.ofNat_tmod j s).symm⟩
        have hrz : (r : Int) = ((j % s : Nat) : Int) := by rw [← hr]; exact (Int.ofNat_tmod j s).symm
        have hr0 : ((r : Int) == 0) = false := by simp only [beq_eq_false_iff_ne, ne_eq]; omega
        clear hrz
        have HOut2 := HOut
        have HCm : Kp (comN (lastB es j) (kb en.k) = cN) := ⟨by rw [HCom.out]; unfold comB; rw [if_neg hz, Hen.out]⟩
        have HEnd : Kp (endsB s es (j + 1) = endsB s es j) := ⟨by show (if j % s = 0 then _ else _) = _; rw [if_neg hz]⟩
        have hll : (lastB es j).length ≤ 264 := lastB_len HG.out (by omega)
        clear hz HOut hrl HCom
        have hnb := (HNb.out.rd (by have := Hbl.out; omega)).1
        have m5 : (nb : Int) % 18446744073709551616 = (nb : Int) := by rw [hnb]; have := Hbl.out; omega
        have Hnb := Kp.mk hnb
        have HEl : Kp ((low4s (endsB s es j)).length ≤ 40000) := ⟨by rw [low4s_len]; omega⟩
        clear hnb hbl hvl
        have x30 := x3
        go_wp2_with (first
          | (go_at_call 46; go_must (refine HKey.out.mono ?_); rintro e w1 ⟨Ak, nk, ck, rfl, h1, h2⟩; have hnk := (h1.rd (by have := Hkl.out; omega)).1; rw [← Hkl.out] at hnk; subst hnk; have HNk1 := Kp.mk h1; have HB1 := Kp.mk (HB.out.trans (h2.mono HB.out.size)); have Z1 := Kp.mk h2.size; have x31 := cell_kept h2 x3; have HVal1 := Kp.mk (HVal.out.below h2); have HNb1 := Kp.mk (HNb.out.below h2); have HNe1 := Kp.mk (HNe.out.below h2); have HNl1 := Kp.mk (HNl.out.below h2); clear h1 h2 x0 x1 x2)
          | (go_at_call 48; have hcall := ref_common (HNl1.out.rd (by omega)).2.1 (HNk1.out.rd (by have := Hkl.out; omega)).2.1; rw [HCm.out] at hcall; refine hcall.mono ?_; clear hcall; rintro e w2 ⟨rfl, h2⟩; have HB2 := Kp.mk (HB1.out.trans (h2.mono HB1.out.size)); have x32 := cell_kept h2 x31; have HVal2 := Kp.mk (HVal1.out.below h2); have HNb2 := Kp.mk (HNb1.out.below h2); have HNk2 := Kp.mk (HNk1.out.below h2); have HNe2 := Kp.mk (HNe1.out.below h2); clear h2)
          | (go_at_call_of 49 (Value.slice Ab nb cb); have hrd := HNb2.out.rd (by (try simp only [List.length_append]); have := Hbl.out; have v0 := varB_len10 (x := cN) (by omega); have v1 := varB_len10 (x := rl) (by omega); have v2 := varB_len10 (x := n0') (by omega); omega); have hle : (((outB s es j)).length) ≤ 1000000000 := (by (try simp only [List.length_append]); have := Hbl.out; have v0 := varB_len10 (x := cN) (by omega); have v1 := varB_len10 (x := rl) (by omega); have v2 := varB_len10 (x := n0') (by omega); omega); have hcall := ref_putN hrd.2.1 (x := cN) (by omega) (by rw [hrd.1]; exact hle); clear hrd hle; refine hcall.mono ?_; clear hcall; rintro e w3 ⟨Ab3, nb3, cb3, rfl, h1, h2⟩; have HNb3 := Kp.mk h1; have Zb3 := Kp.mk h2.size; have HB3 := Kp.mk (HB2.out.trans (h2.mono HB2.out.size)); have x33 := cell_kept h2 x32; have HVal3 := Kp.mk (HVal2.out.below h2); have HNk3 := Kp.mk (HNk2.out.below h2); have HNe3 := Kp.mk (HNe2.out.below h2); clear h1 h2)
          | (go_at_call_of 49 (Value.slice Ab3 nb3 cb3); have hrd := HNb3.out.rd (by (try simp only [List.length_append]); have := Hbl.out; have v0 := varB_len10 (x := cN) (by omega); have v1 := varB_len10 (x := rl) (by omega); have v2 := varB_len10 (x := n0') (by omega); omega); have hle : (((outB s es j ++ varB cN)).length) ≤ 1000000000 := (by (try simp only [List.length_append]); have := Hbl.out; have v0 := varB_len10 (x := cN) (by omega); have v1 := varB_len10 (x := rl) (by omega); have v2 := varB_len10 (x := n0') (by omega); omega); have hcall := ref_putN hrd.2.1 (x := rl) (by omega) (by rw [hrd.1]; exact hle); clear hrd hle; refine hcall.mono ?_; clear hcall; rintro e w4 ⟨Ab4, nb4, cb4, rfl, h1, h2⟩; have HNb4 := Kp.mk h1; have Zb4 := Kp.mk h2.size; have HB4 := Kp.mk (HB3.out.trans (h2.mono HB3.out.size)); have x34 := cell_kept h2 x33; have HVal4 := Kp.mk (HVal3.out.below h2); have HNk4 := Kp.mk (HNk3.out.below h2); have HNe4 := Kp.mk (HNe3.out.below h2); clear h1 h2)
          | (go_at_call_of 49 (Value.slice Ab4 nb4 cb4); have hrd := HNb4.out.rd (by (try simp only [List.length_append]); have := Hbl.out; have v0 := varB_len10 (x := cN) (by omega); have v1 := varB_len10 (x := rl) (by omega); have v2 := varB_len10 (x := n0') (by omega); omega); have hle : (((outB s es j ++ varB cN ++ varB rl)).length) ≤ 1000000000 := (by (try simp only [List.length_append]); have := Hbl.out; have v0 := varB_len10 (x := cN) (by omega); have v1 := varB_len10 (x := rl) (by omega); have v2 := varB_len10 (x := n0') (by omega); omega); have hcall := ref_putN hrd.2.1 (x := n0') (by omega) (by rw [hrd.1]; exact hle); clear hrd hle; refine hcall.mono ?_; clear hcall; rintro e w5 ⟨Ab5, nb5, cb5, rfl, h1, h2⟩; have HNb5 := Kp.mk h1; have Zb5 := Kp.mk h2.size; have HB5 := Kp.mk (HB4.out.trans (h2.mono HB4.out.size)); have x35 := cell_kept h2 x34; have HVal5 := Kp.mk (HVal4.out.below h2); have HNk5 := Kp.mk (HNk4.out.below h2); have HNe5 := Kp.mk (HNe4.out.below h2); clear h1 h2))
        have hbx : b < w4.heap.size := World.block_lt_of_cell? w4 _ x34
        have HD5 : Kp (Below w5.heap.size w5 w5.drew) := ⟨(Below.refl _ _).drew⟩
        have x3d := cell_kept HD5.out x35
        have HNb5d := Kp.mk (HNb5.out.below HD5.out)
        have hOl : (outB s es j ++ varB cN ++ varB rl ++ varB n0').length ≤ 43900030 := by simp only [List.length_append]; have := Hbl.out; have v0 := varB_len10 (x := cN) (by omega); have v1 := varB_len10 (x := rl) (by omega); have v2 := varB_len10 (x := n0') (by omega); omega
        have hkle : (kb en.k).length ≤ 264 := by have := Hkl.out; omega
        obtain ⟨Akc, hif, hrk⟩ := rd_from ((HNk5.out.below HD5.out).rd (by omega)).2.1 HNk5.out.cap (show cN ≤ nk from hcl)
        have HRk := Kp.mk hrk
        have hck := HNk5.out.cap
        clear hrk
        have HVd := Kp.mk (HVal5.out.below HD5.out)
        have HNed := Kp.mk (HNe5.out.below HD5.out)
        have HNkd := Kp.mk (HNk5.out.below HD5.out)
        have HOl := Kp.mk hOl
        have HKle := Kp.mk hkle
        have HEown : Kp (∀ q, (Value.slice Ae ne ce).ownBlock = some q → q < w4.heap.size) := ⟨HNe4.out.lt⟩
        have HKown : Kp (∀ q, (Value.slice Ak nk ck).ownBlock = some q → q < w4.heap.size) := ⟨HNk4.out.lt⟩
        have HVlt : Kp (∀ ad, A0' = some ad → 0 < n0' → ad.block < w4.heap.size) := ⟨HVal4.out.lt⟩
        have Hbx := Kp.mk hbx
        have HB5d : Kp (Below w.heap.size w w5.drew) := ⟨HB5.out.trans (HD5.out.mono HB5.out.size)⟩
        have Hw4 : Kp (w.heap.size ≤ w4.heap.size) := ⟨HB4.out.size⟩
        have Hw45 : Kp (w4.heap.size ≤ w5.drew.heap.size) := ⟨Nat.le_trans Zb5.out HD5.out.size⟩
        have Hml : Kp ((nk - cN) ≤ 264) := ⟨by have := HNk5.out.rd (by omega); omega⟩
        have Hnv : Kp (n0' ≤ 4096) := ⟨hnv⟩
        clear x3 x30 x31 x32 x33 x34 x35 hbx hOl hkle HNb HNb1 HNb2 HNb3 HNb4 HNe HNe1 HNk1 HNk2 HNk3 HNk4 HVal HVal1 HVal2 HVal3 HVal4
        have HL1 : Kp (((outB s es j ++ varB cN ++ varB rl ++ varB n0').length + (nk - cN)) * 1 ≤ 140737488355328) := ⟨by have := HOl.out; have := Hml.out; omega⟩
        have HL2 : Kp ((((outB s es j ++ varB cN ++ varB rl ++ varB n0') ++ ((kb en.k).drop cN)).length + n0') * 1 ≤ 140737488355328) := ⟨by rw [List.length_append]; have := HOl.out; have := Hnv.out; have := HKle.out; have : (((kb en.k).drop cN)).length ≤ 264 := (by first | exact HKle.out | (rw [List.length_drop]; omega)); omega⟩
        have HVk : Kp (∀ W, Below w4.heap.size w5.drew W → Rd W .u8 A0' n0' c0' en.val) := ⟨fun W hW => HVd.out.kept (fr_belowB hW) (fun ad h1 h2 h3 => by have := HVlt.out ad h1 h2; omega)⟩
        go_region_held3 (fun W => W.cell? ⟨b, off + j * 4 + 3, none⟩ = some (.slice A0' n0' c0')) (first | go_keep | exact x3d | exact x36 | exact x37)
          (first | ((refine step_append_nu (w := w5.drew) rfl (.tmp 58) (.tmp 61) 25 5 .u8 1 w4.heap.size rfl Try.underlying25 Try.infoU8 Nat.one_pos (.slice Ab5 nb5 cb5) (nk - cN) (ck - cN) (outB s es j ++ varB cN ++ varB rl ++ varB n0') ((kb en.k).drop cN) Akc rfl rfl HNb5d.out HRk.out HL1.out Hw45.out ?_; intro A6 n6 c6 w6 h1 h2 h3; have HF6 := Kp.mk h3; have HNb6 := Kp.mk h1; have x36 := cell_belowB h3 Hbx.out x3d; clear h1 h2 h3)) | ((refine step_append_nu (w := w6) rfl (.tmp 62) (.tmp 67) 25 5 .u8 1 w4.heap.size rfl Try.underlying25 Try.infoU8 Nat.one_pos (.slice A6 n6 c6) n0' c0' ((outB s es j ++ varB cN ++ varB rl ++ varB n0') ++ ((kb en.k).drop cN)) en.val A0' rfl rfl HNb6.out (HVk.out w6 HF6.out) HL2.out (Nat.le_trans Hw45.out HF6.out.size) ?_; intro A7 n7 c7 w7 h1 h2 h3; have HF7 := Kp.mk (HF6.out.trans h3); have HNb7 := Kp.mk h1; have x37 := cell_belowB h3 Hbx.out x36; clear h1 h2 h3)))
        have HBe : Kp (Below w.heap.size w w7) := ⟨HB5d.out.trans (HF7.out.mono Hw4.out)⟩
        have HNe7 := Kp.mk (HNed.out.kept (fr_belowB HF7.out) (fun q hq hS => by have := HEown.out q hq; omega))
        have HNk7 := Kp.mk (HNkd.out.kept (fr_belowB HF7.out) (fun q hq hS => by have := HKown.out q hq; omega))
        have HNr : Kp (Nu .u8 5 w.heap.size w7 (.slice A7 n7 c7) (outB s es (j + 1))) := ⟨by have := HNb7.out.lower Hw4.out; rw [HOut2.out]; simpa only [List.append_assoc] using this⟩
        have HNer : Kp (Nu .u8 5 w.heap.size w7 (.slice Ae ne ce) (low4s (endsB s es (j + 1)))) := ⟨by rw [HEnd.out]; exact HNe7.out⟩
        have HNlr : Kp (Nu .u8 5 w.heap.size w7 (.slice Ak nk ck) (lastB es (j + 1))) := ⟨by rw [HLast.out]; exact HNk7.out.lower (Nat.le_trans HB.out.size (Nat.le_refl _))⟩
        clear HNb5 HNb5d HNb6 HNb7 HNe2 HNe3 HNe4 HNe5 HNed HNk5 HNkd HVal5 HVd HOut2
        go_wp2_with fail
        go_roundw
        case rel => exact ⟨j + 1, A7, Ae, Ak, n7, c7, ne, ce, nk, ck, by omega, by go_num, rfl, rfl, rfl, by rw [HEnd.out], HNr, HNer, HNlr, HBe⟩
        case measure => simp [intOf]; omega
    · obtain rfl : n = j := by omega
      have hOl : (outB s es n).length ≤ 43900000 := by have := outB_len HG.out s n (by omega); omega
      have hEl : (low4s (endsB s es n)).length ≤ 40000 := by rw [low4s_len]; have := endsB_len s es n; omega
      have hel := endsB_len s es n
      obtain ⟨en, hen⟩ : ∃ en, en = (endsB s es n).length := ⟨_, rfl⟩
      have HBody : Kp (outB s es n ++ low4s (endsB s es n) ++ lowB en 4 = bodyB s es) := ⟨by unfold bodyB; rw [hl, hen]⟩
      rw [← hen] at hel ⊢
      have m6 : (en : Int) % 18446744073709551616 = (en : Int) := by omega
      have HbB := Kp.mk (bodyB_byt HG.out s)
      have HbL := Kp.mk (bodyB_len HG.out s)
      have HRe := Kp.mk (HNe.out.rd (by omega)).2.1
      have hb1 : ((outB s es n).length + ne) * 1 ≤ 140737488355328 := by have := (HNe.out.rd (by omega)).1; omega
      have hb2 : (outB s es n ++ low4s (endsB s es n)).length ≤ 100000000 := by rw [List.length_append]; omega
      have Hb1 := Kp.mk hb1
      have Hb2 := Kp.mk hb2
      have hen8 : en < 18446744073709551616 := by omega
      have HMl : Kp (∀ m4 : Nat, m4 = 4 → ((bodyB s es).length + m4) * 1 ≤ 140737488355328) := ⟨fun m4 h4 => by have := HbL.out; omega⟩
      have hs4 : (lowB (maskN (crcN (bodyB s es))) 4).length = 4 := lowB_len _ _
      have HS4 := Kp.mk hs4
      clear hen hb1 hb2 hOl hEl hel hs4
      go_wp2_with (first
        | (go_at_call 47; have hrd := HN1.out.rd (Nat.le_trans Hb2.out (by omega)); have hcall := ref_lowN hrd.2.1 (x := en) hen8 (m := 4) (by omega) (by rw [hrd.1]; have := Hb2.out; omega); clear hrd; rw [HBody.out] at hcall; refine hcall.mono ?_; clear hcall; rintro e w2 ⟨A2, n2, c2, rfl, h1, h2⟩; have HN2 := Kp.mk h1; have Z2 := Kp.mk h2.size; have HB2 := Kp.mk (HB1.out.trans (h2.mono HB1.out.size)); clear h1 h2)
        | (go_at_call 36; refine (ref_maskedN (HN2.out.rd (by have := HbL.out; omega)).2.1 HbB.out).mono ?_; rintro e w3 ⟨A3, n3, c3, rfl, h1, h2⟩; have HN3 := Kp.mk (HN2.out.below h2); have HR3 := Kp.mk (h1.rd (by rw [lowB_len]; omega)).2.1; have Hn3 := Kp.mk (h1.rd (by rw [lowB_len]; omega)).1; have Z3 := Kp.mk h2.size; have HB3 := Kp.mk (HB2.out.trans (h2.mono HB2.out.size)); clear h1 h2)
        | (at_builtin; (refine wpList_append_nu rfl (.tmp 76) (.tmp 78) 25 5 .u8 1 w.heap.size rfl Try.underlying25 Try.infoU8 Nat.one_pos (.slice A2 n2 c2) n3 c3 (bodyB s es) (lowB (maskN (crcN (bodyB s es))) 4) A3 rfl rfl (HN3.out.lower HB1.out.size) HR3.out (HMl.out n3 (Hn3.out.trans HS4.out)) HB3.out.size ?_); intro A4 c4 w4 h1 h2 h3; have HN4 := Kp.mk h1; have HB4 := Kp.mk (HB3.out.trans h3); clear h1 h2 h3)
        | (at_builtin; go_must (refine wpList_append_nu rfl (.tmp 70) (.tmp 71) 25 5 .u8 1 w.heap.size rfl Try.underlying25 Try.infoU8 Nat.one_pos (.slice Ab nb cb) ne ce (outB s es n) (low4s (endsB s es n)) Ae rfl rfl HNb.out HRe.out Hb1.out HB.out.size ?_); intro A1 c1 w1 h1 h2 h3; have HN1 := Kp.mk h1; have HB1 := Kp.mk (HB.out.trans h3); clear h1 h2 h3))
      go_ret
      exact ⟨A4, _, c4, rfl, HN4.out, HB4.out⟩
end Go.Proofs.Ytinffeffffligaa.Bas
