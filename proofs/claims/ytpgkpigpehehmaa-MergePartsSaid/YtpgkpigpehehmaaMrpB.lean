import Derived.Test.YtpgkpigpehehmaaMrpA
import Derived.Test.YtpgkpigpehehmaaMrgZ
import Derived.Deep.RegionLaw
set_option linter.unusedVariables false
set_option linter.unusedSimpArgs false
namespace Go.Proofs.Ytpgkpigpehehmaa.Bas
open Go.RowKit Go.Maps Go.Sort Go.Shelf

/-! ### A list that was dealt out is together again what it was -/
theorem sub_rises {a l : List En} (h : risesFrom l = true) (hs : a.Sublist l) : risesFrom a = true := pairwise_rises ((rises_pairwise h).sublist hs)
theorem parts_rise {ess : List (List En)} {l : List En} (h : risesFrom l = true) (hs : ∀ x ∈ ess, x.Sublist l) : allRise ess = true := by
  unfold allRise
  rw [List.all_eq_true]
  exact fun x hx => sub_rises h (hs x hx)
theorem parts_all {w : World} {A : Option Addr} {n c : Nat} {ess : List (List En)} {l : List En} (h : Ls w A n c ess) (hl : risesFrom l = true) (hp : ess.flatten.Perm l) (hs : ∀ x ∈ ess, x.Sublist l) (hn : l.length ≤ 60) :
    Calls Try.prog 8 #[.slice A n c] w fun e w' => ∃ A' c', e = .returned (.tuple #[.slice A' l.length c', .int .i64 0]) ∧ Es w' A' l.length c' l ∧ Below w.heap.size w w' :=
  (all_gen h (by have := hp.length_eq; omega)).mono fun e w' hq => by
    obtain ⟨hb, (⟨hr, rfl⟩ | ⟨hr, v, ps, L', hR, hL, rfl, hO, hps⟩)⟩ := hq
    · rw [parts_rise hl hs] at hr; cases hr
    · rw [str_rising hl hp hR] at hps
      obtain ⟨A1, c1, rfl⟩ := hO.slice
      have hlen := congrArg List.length hps
      rw [List.length_map] at hlen
      have he := (hO.es (by omega)).2
      rw [hps, hlen] at he
      exact ⟨A1, c1, by rw [hlen], he, hb⟩
theorem parts_back {w : World} {A : Option Addr} {n c : Nat} {ess : List (List En)} {l : List En} (h : Ls w A n c ess) (hl : risesFrom l = true) (hp : ess.flatten.Perm l) (hs : ∀ x ∈ ess, x.Sublist l) (hn : l.length ≤ 60) :
    Calls Try.prog 10 #[.slice A n c] w fun e w' => ∃ A' c', e = .returned (.tuple #[.slice A' l.length c', .int .i64 0]) ∧ Es w' A' l.length c' l.reverse ∧ Below w.heap.size w w' :=
  (back_gen h (by have := hp.length_eq; omega)).mono fun e w' hq => by
    obtain ⟨hb, (⟨hr, rfl⟩ | ⟨hr, A1, n1, c1, L', hR, hL, rfl, hes⟩)⟩ := hq
    · rw [parts_rise hl hs] at hr; cases hr
    · rw [str_rising hl hp hR] at hes
      have hlen := hes.len
      rw [List.length_reverse] at hlen
      rw [← hlen] at hes ⊢
      exact ⟨A1, c1, rfl, hes, hb⟩
theorem EsW.below {w W : World} {A : Option Addr} {n c : Nat} {ls : List (Nat × Nat)} (h : EsW w A n c ls) (hb : Below w.heap.size w W) : EsW W A n c ls :=
  ⟨h.len, h.max, h.nil, fun hn => by
    obtain ⟨b, off, e, hc⟩ := h.cell hn
    refine ⟨b, off, e, fun i hi => ?_⟩
    obtain ⟨⟨A0, c0, h1⟩, A1, c1, h2⟩ := hc i hi
    exact ⟨⟨A0, c0, cell_kept hb h1⟩, A1, c1, cell_kept hb h2⟩⟩
theorem own_slice {w : World} {B e n size : Nat} {v : Value} {xs : List Value} (h : w.ownsRow B e size v n xs) : ∃ A c, v = .slice A n c := by
  rcases h.2 with ⟨e1, e2⟩ | ⟨q, cap, cur, e1, _⟩
  · exact ⟨none, 0, by rw [e1, e2]⟩
  · exact ⟨_, _, e1⟩
/-- Integers of which nothing is known but that they are there. -/
structure IsW (w : World) (A : Option Addr) (n : Nat) : Prop where
  max : n ≤ 9223372036854775807
  cell : ∀ i, i < n → ∃ ad x, A = some ad ∧ w.cell? (ad.add i) = some (.int .i64 x)
theorem IsW.below {w W : World} {A : Option Addr} {n : Nat} (h : IsW w A n) (hb : Below w.heap.size w W) : IsW W A n :=
  ⟨h.max, fun i hi => by obtain ⟨ad, x, h1, h2⟩ := h.cell i hi; exact ⟨ad, x, h1, cell_kept hb h2⟩⟩
/-- The entries from i on are not yet dealt. -/
structure Dealt (l : List En) (i n : Nat) (pss : Nat → List Pr) : Prop where
  perm : (pls n pss).flatten.Perm (l.take i)
  sub : ∀ j, j < n → ((pss j).map (·.2)).Sublist (l.take i)
theorem dealt_none (l : List En) (n : Nat) : Dealt l 0 n (fun _ => []) := ⟨by
  have : (pls n (fun _ => [])).flatten = [] := by simp [pls]
  rw [this]; simp, fun j hj => by simp⟩
theorem Dealt.step {l : List En} {i n k : Nat} {pss : Nat → List Pr} (h : Dealt l i n pss) (hi : i < l.length) (hk : k < n) {us : Array Value} {e : En} (he : e = l.getD i enD) : Dealt l (i + 1) n (fun j => if j = k then pss k ++ [(us, e)] else pss j) := by
  have ht : l.take (i + 1) = l.take i ++ [e] := by
    rw [List.take_succ_eq_append_getElem hi, he]
    simp [List.getD, hi]
  refine ⟨?_, fun j hj => ?_⟩
  · rw [ht]
    exact (pls_put hk).trans (h.perm.append_right _)
  · rw [ht]
    by_cases a : j = k
    · subst a
      simp only [if_true, List.map_append, List.map_cons, List.map_nil]
      exact (h.sub j hj).append (List.Sublist.refl _)
    · simp only [if_neg a]
      exact (h.sub j hj).trans (List.sublist_append_left _ _)
theorem Dealt.short {l : List En} {i n : Nat} {pss : Nat → List Pr} (h : Dealt l i n pss) (j : Nat) (hj : j < n) : (pss j).length ≤ l.length := by
  have := (h.sub j hj).length_le
  rw [List.length_map, List.length_take] at this
  omega
theorem Dealt.all {l : List En} {n : Nat} {pss : Nat → List Pr} (h : Dealt l l.length n pss) : (pls n pss).flatten.Perm l ∧ ∀ x ∈ pls n pss, x.Sublist l := by
  have e : l.take l.length = l := List.take_length
  refine ⟨by have := h.perm; rwa [e] at this, fun x hx => ?_⟩
  obtain ⟨j, hj, rfl⟩ := List.mem_map.1 hx
  have := h.sub j (List.mem_range.1 hj)
  rwa [e] at this
set_option maxHeartbeats 8000000 in
set_option maxRecDepth 100000 in
theorem merge_parts {w : World} {A B : Option Addr} {n c m d : Nat} {ls : List (Nat × Nat)} (N : Int) (hw : EsW w A n c ls) (hs : bigL ls = false → ∃ es, Es w A n c es) (ht : IsW w B m) :
    Calls Try.prog 4 #[.slice A n c, .slice B m d, .int .i64 N] w fun e w' => e = .returned (.bool true) ∧ Below w.heap.size w w' := by
  have hm := ht.max
  have hnm := hw.max
  have HWk := Kp.mk hw
  obtain ⟨b, hb⟩ : ∃ b, bigL ls = b := ⟨_, rfl⟩
  have HBg : Kp (∀ W, Below w.heap.size w W → Calls Try.prog 14 #[.slice A n c] W fun e w' => e = .returned (.bool b) ∧ w' = W) := ⟨fun W hW => by rw [← hb]; exact big_weak (HWk.out.below hW)⟩
  have HT := Kp.mk ht
  clear hw ht
  cases b with
  | true =>
    clear hs hb
    go_enter Try.func4, Try.ntmps4
    go_wp2_with (first
      | (go_at_call 6; refine (alive_any w).mono ?_; rintro e w1 ⟨rfl, hb1⟩; have HB1 := Kp.mk hb1; clear hb1)
      | (go_at_call 14; refine (HBg.out _ HB1.out).mono ?_; rintro e w2 ⟨rfl, hw2⟩; subst hw2))
    go_ret
    exact ⟨rfl, HB1.out⟩
  | false =>
    obtain ⟨l, hes⟩ := hs hb
    have hn60 : n ≤ 60 := by
      unfold bigL at hb
      rw [Bool.or_eq_false_iff] at hb
      have := of_decide_eq_false hb.2
      have := HWk.out.len
      omega
    have hll := hes.len
    have HE := Kp.mk hes
    obtain ⟨r, hr⟩ : ∃ r, risesFrom l = r := ⟨_, rfl⟩
    have HRi : Kp (∀ W, Below w.heap.size w W → Calls Try.prog 15 #[.slice A n c] W fun e w' => e = .returned (.bool r) ∧ Below W.heap.size W w') := ⟨fun W hW => by rw [← hr]; exact ref_rising (HE.out.below hW)⟩
    have Hr := Kp.mk hr
    clear hb hes HWk hr
    by_cases h1 : N < 1
    · go_enter Try.func4, Try.ntmps4
      go_wp2_with (first
        | (go_at_call 6; refine (alive_any w).mono ?_; rintro e w1 ⟨rfl, hb1⟩; have HB1 := Kp.mk hb1; clear hb1)
        | (go_at_call 14; refine (HBg.out _ HB1.out).mono ?_; rintro e w2 ⟨rfl, hw2⟩; subst hw2))
      go_ret
      exact ⟨rfl, HB1.out⟩
    by_cases h8 : 8 < N
    · go_enter Try.func4, Try.ntmps4
      go_wp2_with (first
        | (go_at_call 6; refine (alive_any w).mono ?_; rintro e w1 ⟨rfl, hb1⟩; have HB1 := Kp.mk hb1; clear hb1)
        | (go_at_call 14; refine (HBg.out _ HB1.out).mono ?_; rintro e w2 ⟨rfl, hw2⟩; subst hw2))
      go_ret
      exact ⟨rfl, HB1.out⟩
    by_cases hmn : (m : Int) < (n : Int)
    · go_enter Try.func4, Try.ntmps4
      go_wp2_with (first
        | (go_at_call 6; refine (alive_any w).mono ?_; rintro e w1 ⟨rfl, hb1⟩; have HB1 := Kp.mk hb1; clear hb1)
        | (go_at_call 14; refine (HBg.out _ HB1.out).mono ?_; rintro e w2 ⟨rfl, hw2⟩; subst hw2))
      go_ret
      exact ⟨rfl, HB1.out⟩
    cases r with
    | false =>
      go_enter Try.func4, Try.ntmps4
      go_wp2_with (first
        | (go_at_call 6; refine (alive_any w).mono ?_; rintro e w1 ⟨rfl, hb1⟩; have HB1 := Kp.mk hb1; clear hb1)
        | (go_at_call 14; refine (HBg.out _ HB1.out).mono ?_; rintro e w2 ⟨rfl, hw2⟩; subst hw2)
        | (go_at_call 15; refine (HRi.out _ HB1.out).mono ?_; rintro e w3 ⟨rfl, hb3⟩; have HB3 := Kp.mk (HB1.out.trans (hb3.mono HB1.out.size)); clear hb3))
      go_ret
      exact ⟨rfl, HB3.out⟩
    | true =>
      obtain ⟨k, rfl⟩ : ∃ k : Nat, N = k := ⟨N.toNat, by omega⟩
      have hk1 : 0 < k := by omega
      have hk8 : k ≤ 8 := by omega
      have hnm' : n ≤ m := by omega
      have hmk := fun W => make_lists W k (by omega)
      go_enter Try.func4, Try.ntmps4
      go_wp2_with (first
        | (go_at_call 6; refine (alive_any w).mono ?_; rintro e w1 ⟨rfl, hb1⟩; have HB1 := Kp.mk hb1; clear hb1)
        | (go_at_call 14; refine (HBg.out _ HB1.out).mono ?_; rintro e w2 ⟨rfl, hw2⟩; subst hw2)
        | (go_at_call 15; refine (HRi.out _ HB1.out).mono ?_; rintro e w3 ⟨rfl, hb3⟩; have HB3 := Kp.mk (HB1.out.trans (hb3.mono HB1.out.size)); clear hb3))
      have HP0 := Kp.mk (pa_new (w0 := w3) (n := k))
      have HE3 := Kp.mk (HE.out.below HB3.out)
      have HT3 := Kp.mk (HT.out.below HB3.out)
      obtain ⟨g, hg⟩ : ∃ g, g = w3.heap.size := ⟨_, rfl⟩
      obtain ⟨W0, hW0⟩ : ∃ W0, W0 = w3.alloc (.cells (madeCells #[.slice none 0 0] k) 25) := ⟨_, rfl⟩
      rw [← hW0, ← hg] at HP0
      rw [← hW0, ← hg]
      have Hg := Kp.mk hg
      clear hW0 hg hmk HE HT HBg HRi
      have HBw : Kp (Below w.heap.size w w3) := HB3
      have HNM := Kp.mk hnm'
      have hdf : decide (m < n) = false := decide_eq_false (by omega)
      simp only [hdf, Bool.or_false]
      clear HB1 HB3 hnm' hmn hdf
      go_loopw [10] (fun i wr => ∃ j : Nat, ∃ vs pss, i = .int .i64 j ∧ j ≤ n ∧ Kp (Pa w3 wr g k vs pss) ∧ Kp (Dealt l j k pss)) (fun i _ => n - (intOf i).toNat)
      case atStart => exact ⟨0, _, _, rfl, Nat.zero_le _, HP0, ⟨dealt_none l k⟩⟩
      case round =>
        obtain ⟨j, vs, pss, rfl, hj, HP, HD⟩ := hrel
        by_cases hlt : j < n
        · obtain ⟨ad, x, rfl, hx'⟩ := HT3.out.cell j (by have := HNM.out; omega)
          have hx := cell_kept HP.out.bel hx'
          obtain ⟨y, hy, hy3⟩ := and_low x
          obtain ⟨q, hq⟩ : ∃ q, q = y % k := ⟨_, rfl⟩
          have hqk : q < k := by rw [hq]; exact Nat.mod_lt _ hk1
          have hrem : (y : Int).tmod (k : Int) = (q : Int) := by rw [hq]; exact Int.ofNat_tmod _ _
          have hjm : j < m := by have := HNM.out; omega
          clear hx' hq
          go_wp2_with fail
          have HPd := HP
          obtain ⟨b, off, rfl, hc⟩ := (HE3.out.below HP.out.bel).cell (by omega)
          obtain ⟨b', off', hbo, hc3⟩ := HE3.out.cell (by omega)
          obtain ⟨rfl, rfl⟩ : b = b' ∧ off = off' := by simpa using hbo
          obtain ⟨us, hu, hu'⟩ := hc3 j hlt
          obtain ⟨e, he⟩ : ∃ e, e = l.getD j enD := ⟨_, rfl⟩
          rw [← he] at hu
          have He := Kp.mk he
          have Hu := Kp.mk hu
          obtain ⟨A0, n0, c0, A0', n0', c0', rfl, a1, a2, a3, a4⟩ := hu
          have x0 : wr.cell? ⟨b, off + j * 4, none⟩ = some (.slice A0 n0 c0) := cell_kept HP.out.bel (hu' 0 _ rfl)
          have x1 : wr.cell? ⟨b, off + j * 4 + 1, none⟩ = some (.int .u64 e.k.seq) := cell_kept HP.out.bel (hu' 1 _ rfl)
          have x2 : wr.cell? ⟨b, off + j * 4 + 2, none⟩ = some (.int .i64 e.k.kind) := cell_kept HP.out.bel (hu' 2 _ rfl)
          have x3 : wr.cell? ⟨b, off + j * 4 + 3, none⟩ = some (.slice A0' n0' c0') := cell_kept HP.out.bel (hu' 3 _ rfl)
          obtain ⟨Aq, cq, hvq⟩ := HP.out.slice hqk
          obtain ⟨lq, hlq⟩ : ∃ lq, lq = (pss q).length := ⟨_, rfl⟩
          rw [← hlq] at hvq
          have y0 := HP.out.cell hqk
          rw [hvq] at y0
          have Hvq := Kp.mk hvq
          have Hlq := Kp.mk hlq
          have HL : Kp ((pss q).length + 1 ≤ 2000000) := ⟨by have := HD.out.short q hqk; omega⟩
          clear hc hc3 hbo hu' he hvq hlq a1 a2 a3 a4 hx hrem hy hy3 hjm
          obtain ⟨W2, hW2⟩ : ∃ W2, W2 = (wr.alloc (.cells #[.slice A0 n0 c0, .int .u64 e.k.seq, .int .i64 e.k.kind, .slice A0' n0' c0'] 40)).drew := ⟨_, rfl⟩
          have hb2 : Below wr.heap.size wr W2 := by rw [hW2]; exact (alloc_below wr _).drew
          have hz2 : W2.heap[wr.heap.size]? = some (.cells #[.slice A0 n0 c0, .int .u64 e.k.seq, .int .i64 e.k.kind, .slice A0' n0' c0'] 40) := by rw [hW2]; exact heap_alloc_new wr _
          have HP2 := Kp.mk (HP.out.below hb2)
          have HC2 : Kp (∀ (i : Nat) (u : Value), (#[.slice A0 n0 c0, .int .u64 e.k.seq, .int .i64 e.k.kind, .slice A0' n0' c0'] : Array Value)[i]? = some u → W2.cell? ((⟨wr.heap.size, 0, none⟩ : Addr).add i) = some u) := ⟨fun i u hu => by
            rw [Addr.add_lit, Nat.zero_add]
            exact cells_top hz2 i u hu⟩
          have HW2 := Kp.mk hW2
          clear hb2 hz2 hW2
          have y0' := cell_kept (alloc_below wr (.cells #[.slice A0 n0 c0, .int .u64 e.k.seq, .int .i64 e.k.kind, .slice A0' n0' c0'] 40)) y0
          go_region_law ((rw [← HW2.out]; refine step_append_pa (w0 := w3) (w := W2) (g := g) (n := k) (vs := vs) (pss := pss) rfl (.tmp 66) (.tmp 71) rfl HP2.out hqk _ e ⟨wr.heap.size, 0, none⟩ 1 Hvq.out.symm rfl Hu.out HC2.out HL.out ?_; intro v' w' ho hg' hat; have HP3 := Kp.mk (HP2.out.put hqk Hu.out ho hg' hat); obtain ⟨k0, k1⟩ := HP2.out.grown hqk hg'; have hsl := own_slice ho; clear ho hg' hat; obtain ⟨A9, c9, rfl⟩ := hsl))
          all_goals
            have hj1 : j < l.length := by omega
            have HD3 := Kp.mk (HD.out.step hj1 hqk (us := #[.slice A0 n0 c0, .int .u64 e.k.seq, .int .i64 e.k.kind, .slice A0' n0' c0']) He.out)
            clear hj1 y0 y0' x0 x1 x2 x3 k0 k1 HC2 HW2 HP2 HP HD
            go_wp2_with fail
            go_roundw
            case rel => exact ⟨j + 1, _, _, by go_num, by omega, HP3, HD3⟩
            case measure => simp [intOf]; omega
        · obtain rfl : n = j := by omega
          have hd : Dealt l l.length k pss := by rw [hll]; exact HD.out
          have hbw : Below w.heap.size w wr := HBw.out.trans (HP.out.bel.mono HBw.out.size)
          have hls := HP.out.ls (by omega) (fun i hi => by have := hd.short i hi; omega)
          have hA := parts_all hls Hr.out hd.all.1 hd.all.2 (by omega)
          have hB := fun (W : World) (hb : Below wr.heap.size wr W) => parts_back (hls.below hb) Hr.out hd.all.1 hd.all.2 (by omega)
          have hE := HE3.out.below HP.out.bel
          rw [hll] at hA hB
          have HA := Kp.mk hA
          have HBk := Kp.mk hB
          have HE4 := Kp.mk hE
          have HBw4 := Kp.mk hbw
          clear hd hbw hls hA hB hE HP HD HP0 HE3 HT3 HBw
          go_wp2_with (first
            | (go_at_call 8; refine HA.out.mono ?_; rintro e w4 ⟨A1, c1, rfl, he1, hb4⟩; have HE5 := Kp.mk (HE4.out.below hb4); have HA5 := Kp.mk he1; have HBw5 := Kp.mk (HBw4.out.trans (hb4.mono HBw4.out.size)); have HBk5 := Kp.mk (HBk.out _ hb4); clear he1 hb4)
            | (go_at_call 10; refine HBk5.out.mono ?_; rintro e w5 ⟨A2, c2, rfl, he2, hb5⟩; have HE6 := Kp.mk (HE5.out.below hb5); have HA6 := Kp.mk (HA5.out.below hb5); have HR6 := Kp.mk he2; have HBw6 := Kp.mk (HBw5.out.trans (hb5.mono HBw5.out.size)); clear he2 hb5)
            | (go_at_call 12; refine (same_entries HA6.out HE6.out).mono ?_; rintro e w7 ⟨rfl, hb7⟩; have HE7 := Kp.mk (HE6.out.below hb7); have HR7 := Kp.mk (HR6.out.below hb7); have HBw7 := Kp.mk (HBw6.out.trans (hb7.mono HBw6.out.size)); clear hb7)
            | (go_at_call 13; refine (num_any _ _).mono ?_; rintro e w9 ⟨rfl, hw9⟩; subst hw9))
          clear HA HBk HBk5 HE5 HA5 HE6 HA6 HR6 hj hlt
          go_loopw [16] (fun i wr => ∃ j : Nat, j ≤ n ∧ i = .int .i64 j ∧ Kp (Below w7.heap.size w7 wr)) (fun i _ => n - (intOf i).toNat)
          case atStart => exact ⟨0, Nat.zero_le _, rfl, ⟨Below.refl _ _⟩⟩
          case round =>
            obtain ⟨j, hj, rfl, HB⟩ := hrel
            by_cases hlt : j < n
            · obtain ⟨q, hq⟩ : ∃ q, q = n - 1 - j := ⟨_, rfl⟩
              have hqn : q < n := by omega
              have hqn' : ¬ n ≤ q := by omega
              have hw1 : IntKind.i64.wrap ((n : Int) - 1) = ((n - 1 : Nat) : Int) := (IntWalk.i64_in _ (by omega)).trans (by omega)
              have hw2 : IntKind.i64.wrap (((n - 1 : Nat) : Int) - (j : Int)) = (q : Int) := (IntWalk.i64_in _ (by omega)).trans (by omega)
              obtain ⟨b, off, rfl, hc⟩ := (HR7.out.below HB.out).cell (by omega)
              obtain ⟨b', off', rfl, hc'⟩ := (HE7.out.below HB.out).cell (by omega)
              obtain ⟨us, hu, hu'⟩ := hc q hqn
              obtain ⟨vs, hv, hv'⟩ := hc' j hlt
              have hsame : l.reverse.getD q enD = l.getD j enD := by
                have h1 : q < l.reverse.length := by simpa [hll] using hqn
                have h2 : j < l.length := by omega
                rw [List.getD_eq_getElem?_getD, List.getElem?_eq_getElem h1, List.getD_eq_getElem?_getD, List.getElem?_eq_getElem h2]
                simp only [Option.getD_some, List.getElem_reverse]
                congr 1
                omega
              rw [hsame] at hu
              have HC : Kp (∀ W, Below wr.heap.size wr W → Calls Try.prog 16 #[.agg us, .agg vs] W fun en w' => en = .returned (.bool true) ∧ Below W.heap.size W w') := ⟨fun W hb => same_entry (hu.below hb) (hv.below hb)⟩
              obtain ⟨A0, n0, c0, A0', n0', c0', rfl, a1, a2, a3, a4⟩ := hu
              obtain ⟨A3, n3, c3, A3', n3', c3', rfl, b1, b2, b3, b4⟩ := hv
              have x0 : wr.cell? ⟨b, off + q * 4, none⟩ = some (.slice A0 n0 c0) := hu' 0 _ rfl
              have x1 : wr.cell? ⟨b, off + q * 4 + 1, none⟩ = some (.int .u64 (l.getD j enD).k.seq) := hu' 1 _ rfl
              have x2 : wr.cell? ⟨b, off + q * 4 + 2, none⟩ = some (.int .i64 (l.getD j enD).k.kind) := hu' 2 _ rfl
              have x3 : wr.cell? ⟨b, off + q * 4 + 3, none⟩ = some (.slice A0' n0' c0') := hu' 3 _ rfl
              have y0 : wr.cell? ⟨b', off' + j * 4, none⟩ = some (.slice A3 n3 c3) := hv' 0 _ rfl
              have y1 : wr.cell? ⟨b', off' + j * 4 + 1, none⟩ = some (.int .u64 (l.getD j enD).k.seq) := hv' 1 _ rfl
              have y2 : wr.cell? ⟨b', off' + j * 4 + 2, none⟩ = some (.int .i64 (l.getD j enD).k.kind) := hv' 2 _ rfl
              have y3 : wr.cell? ⟨b', off' + j * 4 + 3, none⟩ = some (.slice A3' n3' c3') := hv' 3 _ rfl
              generalize (l.getD j enD).k.seq = sq at x1 y1 HC
              generalize (l.getD j enD).k.kind = kd at x2 y2 HC
              clear hu' hv' hc hc' a1 a2 a3 a4 b1 b2 b3 b4 hq hsame
              go_wp2_with fail
              have X0 := blw_cell x0
              have X1 := blw_cell x1
              have X2 := blw_cell x2
              have X3 := blw_cell x3
              have Y0 := blw_cell y0
              have Y1 := blw_cell y1
              have Y2 := blw_cell y2
              have Y3 := blw_cell y3
              clear x0 x1 x2 x3 y0 y1 y2 y3
              refine wp_region_below (by kernel_rfl) (by kernel_rfl) ?_
              repeat (first | go_big_quiet_step ((go_at_call 16; exact calls_blw (HC.out _ (Blw.h _)))) | quiet_step ((go_at_call 16; exact calls_blw (HC.out _ (Blw.h _)))))
              refine wpQuiet_nil ?_
              rintro _ ⟨pq, rfl⟩
              have HB1 := Kp.mk (HB.out.trans (pq.h.mono HB.out.size))
              go_wp2_with fail
              go_roundw
              case rel => exact ⟨j + 1, by omega, by go_num, HB1⟩
              case measure => simp [intOf]; omega
            · go_wp2_with fail
              go_ret
              exact ⟨rfl, HBw7.out.trans (HB.out.mono HBw7.out.size)⟩
end Go.Proofs.Ytpgkpigpehehmaa.Bas
