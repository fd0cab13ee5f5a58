import Derived.Test.YtgeklapphkgdkaaDsPd
set_option linter.unusedVariables false
set_option linter.unusedSimpArgs false
namespace Go.Proofs.Ytgeklapphkgdkaa.Dsk
open Go.RowKit Go.Maps

/-! ### Do, any way; the law's loop -/
set_option maxHeartbeats 2000000 in
set_option maxRecDepth 100000 in
theorem do_else {w : World} {B B' g g' : Nat} {σ : DS} {S S' : Nat → Prop} (h : Two w B B' g g' σ S S') {at_ n : Int} {P Q : ByteArray} {Ab : Option Addr} {nb cb : Nat} {b : List Int} {Al : Option Addr} {nl cl : Nat} {l : List Int} (ha : ActP w S S' at_ n P Q Ab nb cb b Al nl cl l) (way : Int) (h0 : ¬ way = 0) (h1 : ¬ way = 1) (h2 : ¬ way = 2) (h3 : ¬ way = 3) (h4 : ¬ way = 4) (h5 : ¬ way = 5) (h6 : ¬ way = 6) :
    Calls Try.prog 26 #[.pointer (some ⟨g, 0, none⟩), .pointer (some ⟨g', 0, none⟩), .agg #[.int .i64 way, .int .i64 at_, .int .i64 n, .string P, .string Q, .slice Ab nb cb, .slice Al nl cl]] w fun e w' => e = .returned (.bool true) ∧ Post2 B B' g g' S S' w w' := by
  have b0 : (way == 0) = false := by simpa using h0
  have b1 : (way == 1) = false := by simpa using h1
  have b2 : (way == 2) = false := by simpa using h2
  have b3 : (way == 3) = false := by simpa using h3
  have b4 : (way == 4) = false := by simpa using h4
  have b5 : (way == 5) = false := by simpa using h5
  have b6 : (way == 6) = false := by simpa using h6
  have H := Kp.mk h
  have HA := Kp.mk ha
  clear h ha h0 h1 h2 h3 h4 h5 h6
  go_enter Try.func26, Try.ntmps26
  go_wp2_with fail
  go_ret
  exact ⟨rfl, post2_refl H.out (alloc_below w _)⟩
theorem do_any {w : World} {B B' g g' : Nat} {σ : DS} {S S' : Nat → Prop} (h : Two w B B' g g' σ S S') {at_ n : Int} {P Q : ByteArray} {Ab : Option Addr} {nb cb : Nat} {b : List Int} {Al : Option Addr} {nl cl : Nat} {l : List Int} (ha : ActP w S S' at_ n P Q Ab nb cb b Al nl cl l) (way : Int) :
    Calls Try.prog 26 #[.pointer (some ⟨g, 0, none⟩), .pointer (some ⟨g', 0, none⟩), .agg #[.int .i64 way, .int .i64 at_, .int .i64 n, .string P, .string Q, .slice Ab nb cb, .slice Al nl cl]] w fun e w' => e = .returned (.bool true) ∧ Post2 B B' g g' S S' w w' := by
  by_cases h0 : way = 0
  · subst h0
    exact do0 h ha
  by_cases h1 : way = 1
  · subst h1
    exact do1 h ha
  by_cases h2 : way = 2
  · subst h2
    exact do2 h ha
  by_cases h3 : way = 3
  · subst h3
    exact do3 h ha
  by_cases h4 : way = 4
  · subst h4
    exact do4 h ha
  by_cases h5 : way = 5
  · subst h5
    exact do5 h ha
  by_cases h6 : way = 6
  · subst h6
    exact do6 h ha
  exact do_else h ha way h0 h1 h2 h3 h4 h5 h6
theorem ADok.below {w W : World} {a : AD} (h : ADok w a) (hb : Below w.heap.size w W) : ADok W a :=
  ⟨h.way, h.at_, h.n, h.P, h.Q, h.nb, h.nl, fun q => by obtain ⟨b, hr⟩ := h.b q; exact ⟨b, hr.below hb⟩, fun q => by obtain ⟨b, hr⟩ := h.l q; exact ⟨b, hr.below hb⟩⟩
theorem Acts.below {w W : World} {A : Option Addr} {n c : Nat} {l : List AD} (h : Acts w A n c l) (hb : Below w.heap.size w W) : Acts W A n c l :=
  ⟨h.len, h.max, h.nil, fun hp => by
    obtain ⟨b, off, e, hc⟩ := h.cell hp
    exact ⟨b, off, e, fun i hi j v hv => cell_kept hb (hc i hi j v hv)⟩, fun i hi => (h.ok i hi).below hb⟩
/-- What holds of all three disks at every round's head. -/
def Inv (w0 : World) (B B' Bo g g' go : Nat) (w : World) : Prop :=
  ∃ σ S S' σo So, Two w B B' g g' σ S S' ∧ IsDisk w Bo go σo So ∧ (0 ≤ σo.room ∧ σo.room ≤ 9223372036854775807) ∧ Bo ≤ w.heap.size ∧ (∀ k, So k → ¬ S k ∧ ¬ S' k ∧ k < w.heap.size ∧ w0.heap.size ≤ k) ∧ (∀ k, S k ∨ S' k → w0.heap.size ≤ k) ∧ Below w0.heap.size w0 w
theorem Inv.old {w0 w : World} {B B' Bo g g' go : Nat} (h : Inv w0 B B' Bo g g' go w) : Below w0.heap.size w0 w := by
  obtain ⟨σ, S, S', σo, So, h1, h2, h3, h4, h5, h6, h7⟩ := h
  exact h7
theorem Inv.below {w0 w W : World} {B B' Bo g g' go : Nat} (h : Inv w0 B B' Bo g g' go w) (hb : Below w.heap.size w W) : Inv w0 B B' Bo g g' go W := by
  obtain ⟨σ, S, S', σo, So, h1, h2, h3, h4, h5, h6, h7⟩ := h
  exact ⟨σ, S, S', σo, So, h1.below hb, h2.below hb, h3, Nat.le_trans h4 hb.size, fun k hk => ⟨(h5 k hk).1, (h5 k hk).2.1, Nat.lt_of_lt_of_le (h5 k hk).2.2.1 hb.size, (h5 k hk).2.2.2⟩, h6, h7.trans (hb.mono h7.size)⟩
/-- A call of the other disk. -/
theorem Inv.fst {w0 w : World} {B B' Bo g g' go : Nat} (h : Inv w0 B B' Bo g g' go w) (nm : ByteArray) (hs : nm.size ≤ 100000) (x : Int) :
    Calls Try.prog 11 #[.pointer (some ⟨go, 0, none⟩), .string nm, .slice (some ⟨w.heap.size, 0, none⟩) 1 1] (w.alloc (.cells #[.int .u8 x] 5)) fun e w' => (∃ y : Int, e = .returned (.int .i64 y)) ∧ Inv w0 B B' Bo g g' go w' := by
  obtain ⟨σ, S, S', σo, So, h1, h2, h3, h4, h5, h6, h7⟩ := h
  have hal := alloc_below w (.cells #[.int .u8 x] 5)
  have hsz : (w.alloc (.cells #[.int .u8 x] 5)).heap.size = w.heap.size + 1 := by simp
  have hrd : Rd (w.alloc (.cells #[.int .u8 x] 5)) .u8 (some ⟨w.heap.size, 0, none⟩) 1 1 [x] := ⟨rfl, by omega, (fun e => by cases e), fun _ => ⟨_, rfl, fun j hj => by
    obtain rfl : j = 0 := by omega
    rw [Addr.add_lit, Nat.zero_add]
    exact cells_top (heap_alloc_new w _) 0 _ rfl⟩⟩
  refine (append_any _ Bo go σo So nm _ 1 1 [x] (h2.below hal) hs h3 (by omega) hrd (fun ad e hn hS => by
    injection e with e
    subst e
    have := (h5 _ hS).2.2.1
    exact Nat.lt_irrefl _ this)).mono ?_
  rintro e w' ⟨rfl, hp⟩
  refine ⟨⟨_, rfl⟩, σ, S, S', (σo.append nm [x]).2, fun k => (So k ∨ w.heap.size + 1 ≤ k) ∧ k < w'.heap.size, (h1.below hal).fr hp.2 (fun k hk => ⟨(h5 k hk).1, (h5 k hk).2.1⟩), hp.1.mono (fun k hk h => ⟨by rw [hsz] at h; exact h, hk⟩), by rw [append_room]; exact h3, by have := hp.2.size; omega, fun k hk => ?_, h6, ?_⟩
  · have hw := h7.size
    rcases hk.1 with h | h
    · exact ⟨(h5 k h).1, (h5 k h).2.1, hk.2, (h5 k h).2.2.2⟩
    · exact ⟨fun e => by have := (h1.2.2.1 k e).2; omega, fun e => by have := h1.2.2.2.1 k e; omega, hk.2, by omega⟩
  · exact ((Fr.of_below (S := fun _ => False) h7).trans ((Fr.of_below hal).trans hp.2 (fun k h => .inl h)) (fun k h => .inr (h5 k h).2.2.2)).toBelow (fun _ h => h.elim) (Nat.le_refl _)
/-- A call of both. -/
theorem Inv.both {w0 w w' : World} {B B' Bo g g' go : Nat} {σ σo : DS} {S S' So : Nat → Prop} (h1 : Two w B B' g g' σ S S') (h2 : IsDisk w Bo go σo So) (h3 : 0 ≤ σo.room ∧ σo.room ≤ 9223372036854775807) (h4 : Bo ≤ w.heap.size) (h5 : ∀ k, So k → ¬ S k ∧ ¬ S' k ∧ k < w.heap.size ∧ w0.heap.size ≤ k) (h6 : ∀ k, S k ∨ S' k → w0.heap.size ≤ k) (h7 : Below w0.heap.size w0 w)
    (hp : Post2 B B' g g' S S' w w') : Inv w0 B B' Bo g g' go w' := by
  obtain ⟨σ', T, T', g1, g2, g3⟩ := hp
  have hw := h7.size
  refine ⟨σ', T, T', σo, So, g1, h2.kept g3 (fun k hk h => h.elim (h5 k hk).1 (h5 k hk).2.1), h3, Nat.le_trans h4 g3.size, fun k hk => ⟨fun e => ?_, fun e => ?_, Nat.lt_of_lt_of_le (h5 k hk).2.2.1 g3.size, (h5 k hk).2.2.2⟩, fun k hk => ?_, ?_⟩
  · rcases g2 k (.inl e) with h | h
    · exact h.elim (h5 k hk).1 (h5 k hk).2.1
    · have := (h5 k hk).2.2.1; omega
  · rcases g2 k (.inr e) with h | h
    · exact h.elim (h5 k hk).1 (h5 k hk).2.1
    · have := (h5 k hk).2.2.1; omega
  · rcases g2 k hk with h | h
    · exact h6 k h
    · omega
  · exact ((Fr.of_below (S := fun _ => False) h7).trans g3 (fun k h => .inr (h6 k h))).toBelow (fun _ h => h.elim) (Nat.le_refl _)
theorem Inv.do_ {w0 w : World} {B B' Bo g g' go : Nat} (h : Inv w0 B B' Bo g g' go w) {a : AD} (ha : ADok w0 a) (h1 : a.P.size ≤ 60) (h2 : a.Q.size ≤ 60) (h3 : a.nb ≤ 300) (h4 : a.nl ≤ 40) :
    Calls Try.prog 26 #[.pointer (some ⟨g, 0, none⟩), .pointer (some ⟨g', 0, none⟩), .agg a.vs] w fun e w' => e = .returned (.bool true) ∧ Inv w0 B B' Bo g g' go w' := by
  obtain ⟨σ, S, S', σo, So, g1, g2, g3, g4, g5, g6, g7⟩ := h
  obtain ⟨b, hb⟩ := ha.b (by omega)
  obtain ⟨l, hl⟩ := ha.l (by omega)
  have hA : ActP w S S' a.at_ a.n a.P a.Q a.Ab a.nb a.cb b a.Al a.nl a.cl l := ⟨by omega, by omega, hb.below g7, by omega, fun ad e hn => by
      have := hb.lt ad e hn
      exact ⟨fun h => by have := g6 _ (.inl h); omega, fun h => by have := g6 _ (.inr h); omega⟩, hl.below g7, by omega, fun ad e hn => by
      have := hl.lt ad e hn
      exact ⟨fun h => by have := g6 _ (.inl h); omega, fun h => by have := g6 _ (.inr h); omega⟩, ha.at_, ha.n⟩
  refine (do_any g1 hA a.way).mono ?_
  rintro e w' ⟨rfl, hp⟩
  exact ⟨rfl, Inv.both g1 g2 g3 g4 g5 g6 g7 hp⟩
theorem Inv.same {w0 w : World} {B B' Bo g g' go : Nat} (h : Inv w0 B B' Bo g g' go w) {nm : ByteArray} (hs : nm.size ≤ 60) :
    Calls Try.prog 27 #[.pointer (some ⟨g, 0, none⟩), .pointer (some ⟨g', 0, none⟩), .string nm] w fun e w' => e = .returned (.bool true) ∧ Inv w0 B B' Bo g g' go w' := by
  obtain ⟨σ, S, S', σo, So, g1, g2, g3, g4, g5, g6, g7⟩ := h
  refine (same_any g1 nm (by omega)).mono ?_
  rintro e w' ⟨rfl, hp⟩
  exact ⟨rfl, Inv.both g1 g2 g3 g4 g5 g6 g7 hp⟩
theorem inv_start {w wb w1 w2 w3 : World} {room : Int} (hroom : inI room) (h0 : Below w.heap.size w wb) (hd : IsDisk w1 wb.heap.size (wb.heap.size + 1) ⟨max 0 room, [], [], 0⟩ (fun k => wb.heap.size ≤ k ∧ k < wb.heap.size + 2)) (hb1 : Below wb.heap.size wb w1) (hs1 : w1.heap.size = wb.heap.size + 2)
    (ho : IsDisk w2 w1.heap.size (w1.heap.size + 1) ⟨max 0 99, [], [], 0⟩ (fun k => w1.heap.size ≤ k ∧ k < w1.heap.size + 2)) (hb2 : Below w1.heap.size w1 w2) (hs2 : w2.heap.size = w1.heap.size + 2)
    (hr : IsR w3 w2.heap.size w2.heap.size ⟨max 0 room, [], [], 0⟩ (fun k => w2.heap.size ≤ k ∧ k < w2.heap.size + 1)) (hb3 : Below w2.heap.size w2 w3) (hs3 : w3.heap.size = w2.heap.size + 1) :
    Inv w wb.heap.size w2.heap.size w1.heap.size (wb.heap.size + 1) w2.heap.size (w1.heap.size + 1) w3 := by
  have hw := h0.size
  obtain ⟨q1, q2⟩ := hroom
  refine ⟨_, _, _, _, _, ⟨(hd.below hb2).below hb3, hr, fun k hk => ⟨fun h => by omega, by omega⟩, fun k hk => by omega, by omega, ⟨by simp only; omega, by simp only; omega⟩, rfl⟩, ho.below hb3, ⟨by decide, by decide⟩, by omega, fun k hk => ⟨fun h => by omega, fun h => by omega, by omega, by omega⟩, fun k hk => by omega, ?_⟩
  exact h0.trans ((hb1.mono hw).trans ((hb2.mono (by omega)).trans (hb3.mono (by omega))))
set_option maxHeartbeats 4000000 in
set_option maxRecDepth 100000 in
theorem plays {w : World} {A : Option Addr} {n c : Nat} {l : List AD} (room : Int) (hroom : inI room) (h : Acts w A n c l) :
    Calls Try.prog 8 #[.int .i64 room, .slice A n c] w fun e w' => e = .returned (.bool true) ∧ Below w.heap.size w w' := by
  have H := Kp.mk h
  obtain ⟨bg, hbg⟩ : ∃ b, b = bigA l := ⟨_, rfl⟩
  have HBG := Kp.mk hbg
  have hmax := h.max
  have HRoom := Kp.mk hroom
  clear h hbg hroom
  go_enter Try.func8, Try.ntmps8
  go_wp2_with fail
  refine (alive_any w).mono ?_
  rintro e wa ⟨rfl, hba⟩
  have HBa := Kp.mk hba
  have HB := Kp.mk (big_any (H.out.below hba))
  rw [← HBG.out] at HB
  clear hba
  go_wp2_with fail
  refine HB.out.mono ?_
  rintro e wb ⟨rfl, hwb⟩
  subst hwb
  cases bg
  · go_wp2_with fail
    refine (new_at _ room).mono ?_
    rintro e w1 ⟨rfl, hd1, hb1, hs1⟩
    clear HB
    obtain ⟨hlen60, hsmall⟩ := bigA_false HBG.out.symm
    rw [H.out.len] at hlen60 hsmall
    have HSM := Kp.mk hsmall
    have HP1 := Kp.mk (And.intro hd1 (And.intro hb1 hs1))
    clear hd1 hb1 hs1 hsmall HBG
    go_wp2_with fail
    refine (new_at _ 99).mono ?_
    rintro e w2 ⟨rfl, hd2, hb2, hs2⟩
    have HP2 := Kp.mk (And.intro hd2 (And.intro hb2 hs2))
    clear hd2 hb2 hs2
    go_wp2_with fail
    refine (r_new _ room).mono ?_
    rintro e w3 ⟨rfl, hd3, hb3, hs3⟩
    have HI := Kp.mk (inv_start HRoom.out HBa.out HP1.out.1 HP1.out.2.1 HP1.out.2.2 HP2.out.1 HP2.out.2.1 HP2.out.2.2 hd3 hb3 hs3)
    clear hd3 hb3 hs3 HP1 HP2
    obtain ⟨B, hB⟩ : ∃ x, x = wb.heap.size := ⟨_, rfl⟩
    obtain ⟨g, hg⟩ : ∃ x, x = wb.heap.size + 1 := ⟨_, rfl⟩
    obtain ⟨Bo, hBo⟩ : ∃ x, x = w1.heap.size := ⟨_, rfl⟩
    obtain ⟨go, hgo⟩ : ∃ x, x = w1.heap.size + 1 := ⟨_, rfl⟩
    obtain ⟨g', hg'⟩ : ∃ x, x = w2.heap.size := ⟨_, rfl⟩
    rw [← hg, ← hgo, ← hg']
    rw [← hg, ← hgo, ← hg', ← hB, ← hBo] at HI
    clear hB hg hBo hgo hg' HBa
    go_wp2_with fail
    go_loopw [10] (fun i wr => ∃ k : Nat, i = .int .i64 (k : Nat) ∧ k ≤ n ∧ Kp (Inv w B g' Bo g g' go wr)) (fun i _ => n - (intOf i).toNat)
    case atStart => exact ⟨0, rfl, Nat.zero_le _, HI⟩
    case round =>
      clear HI
      obtain ⟨k, rfl, hk, HI⟩ := hrel
      by_cases hkn : k < n
      · obtain ⟨b, off, rfl, hc⟩ := H.out.cell (by omega)
        have HOk := Kp.mk (H.out.ok k hkn)
        have HSk := Kp.mk (HSM.out k hkn)
        have hz := hc k hkn
        obtain ⟨a, ha⟩ : ∃ a, a = l.getD k adD := ⟨_, rfl⟩
        rw [← ha] at hz HOk HSk
        have hkn' : ¬ n ≤ k := by omega
        have HZ := Kp.mk hz
        clear hc hz ha
        have HF := Kp.mk (HI.out.fst ⟨#[111, 116, 104, 101, 114]⟩ (by decide) 1)
        clear HI
        go_wp2_with fail
        refine HF.out.mono ?_
        rintro e w4 ⟨⟨y, rfl⟩, hi4⟩
        have hold4 := hi4.old
        have HD := Kp.mk (hi4.do_ HOk.out HSk.out.1 HSk.out.2.1 HSk.out.2.2.1 HSk.out.2.2.2)
        obtain ⟨a0, a1, a2, P, Q, Ab, nb, cb, Al, nl, cl⟩ := a
        have x0 : w.cell? ⟨b, off + k * 7, none⟩ = some (.int .i64 a0) := HZ.out 0 _ rfl
        have x1 : w.cell? ⟨b, off + k * 7 + 1, none⟩ = some (.int .i64 a1) := HZ.out 1 _ rfl
        have x2 : w.cell? ⟨b, off + k * 7 + 2, none⟩ = some (.int .i64 a2) := HZ.out 2 _ rfl
        have x3 : w.cell? ⟨b, off + k * 7 + 3, none⟩ = some (.string P) := HZ.out 3 _ rfl
        have x4 : w.cell? ⟨b, off + k * 7 + 4, none⟩ = some (.string Q) := HZ.out 4 _ rfl
        have x5 : w.cell? ⟨b, off + k * 7 + 5, none⟩ = some (.slice Ab nb cb) := HZ.out 5 _ rfl
        have x6 : w.cell? ⟨b, off + k * 7 + 6, none⟩ = some (.slice Al nl cl) := HZ.out 6 _ rfl
        have X3 := Kp.mk x3
        have X4 := Kp.mk x4
        have v0 := cell_kept hold4 x0
        have v1 := cell_kept hold4 x1
        have v2 := cell_kept hold4 x2
        have v3 := cell_kept hold4 x3
        have v4 := cell_kept hold4 x4
        have v5 := cell_kept hold4 x5
        have v6 := cell_kept hold4 x6
        clear HZ HF hi4 hold4 x0 x1 x2 x3 x4 x5 x6
        go_wp2_with fail
        refine HD.out.mono ?_
        rintro e w5 ⟨rfl, hi5⟩
        have u3 := cell_kept hi5.old X3.out
        have HS1 := Kp.mk (hi5.same HSk.out.1)
        clear hi5 HD v0 v1 v2 v3 v4 v5 v6
        go_wp2_with fail
        refine HS1.out.mono ?_
        rintro e w6 ⟨rfl, hi6⟩
        have u4 := cell_kept hi6.old X4.out
        have HS2 := Kp.mk (hi6.same HSk.out.2.1)
        clear hi6 HS1 u3
        go_wp2_with fail
        refine HS2.out.mono ?_
        rintro e w7 ⟨rfl, hi7⟩
        have HI7 := Kp.mk hi7
        clear hi7 HS2 u4
        go_wp2_with fail
        go_roundw
        case rel => exact ⟨k + 1, by go_num, by omega, HI7⟩
        case measure => simp [intOf]; omega
      · obtain rfl : n = k := by omega
        go_wp2_with fail
        go_ret
        exact ⟨rfl, HI.out.old⟩
  · go_wp2_with fail
    go_ret
    exact ⟨rfl, HBa.out⟩
end Go.Proofs.Ytgeklapphkgdkaa.Dsk
