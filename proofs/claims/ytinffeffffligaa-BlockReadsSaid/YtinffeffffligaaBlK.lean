import Derived.Test.YtinffeffffligaaBlG
import Derived.BigQuiet
set_option linter.unusedVariables false
set_option linter.unusedSimpArgs false
namespace Go.Proofs.Ytinffeffffligaa.Bas
open Go.RowKit Go.Maps

/-! ### Numbers in so many bytes -/
def numB : List Int → Nat
  | [] => 0
  | c :: r => c.toNat + 256 * numB r
theorem numB_lt : ∀ {xs : List Int}, Byt xs → numB xs < 256 ^ xs.length
  | [], _ => by simp [numB]
  | c :: r, h => by
    have h1 := h c (List.mem_cons_self ..)
    have h2 := numB_lt (xs := r) (fun x hx => h x (List.mem_cons_of_mem _ hx))
    rw [List.length_cons, Nat.pow_succ]
    unfold numB
    omega
theorem lowB_cons (x : Nat) : ∀ n, lowB x (n + 1) = ((x % 256 : Nat) : Int) :: lowB (x / 256) n
  | 0 => by simp [lowB]
  | n + 1 => by
    rw [lowB, lowB_cons x n]
    show _ :: (lowB (x / 256) n ++ _) = _ :: lowB (x / 256) (n + 1)
    rw [lowB, Nat.div_div_eq_div_mul, Nat.pow_succ, Nat.mul_comm 256]
theorem lowB_numB : ∀ {xs : List Int}, Byt xs → lowB (numB xs) xs.length = xs
  | [], _ => rfl
  | c :: r, h => by
    have h1 := h c (List.mem_cons_self ..)
    rw [List.length_cons, lowB_cons]
    have e : numB (c :: r) = c.toNat + 256 * numB r := rfl
    rw [e, show (c.toNat + 256 * numB r) % 256 = c.toNat by omega, show (c.toNat + 256 * numB r) / 256 = numB r by omega, lowB_numB (fun x hx => h x (List.mem_cons_of_mem _ hx))]
    rw [show ((c.toNat : Nat) : Int) = c by omega]
theorem numB_lowB : ∀ (n x : Nat), x < 256 ^ n → numB (lowB x n) = x
  | 0, x, h => by
    have : x = 0 := by simpa using h
    rw [this]; rfl
  | n + 1, x, h => by
    rw [lowB_cons]
    show (((x % 256 : Nat) : Int)).toNat + 256 * numB (lowB (x / 256) n) = x
    rw [numB_lowB n (x / 256) (by rw [Nat.pow_succ] at h; omega), Int.toNat_natCast]
    omega
theorem lowB_inj {n x y : Nat} (hx : x < 256 ^ n) (hy : y < 256 ^ n) (h : lowB x n = lowB y n) : x = y := by
  rw [← numB_lowB n x hx, h, numB_lowB n y hy]
theorem numB_cons (c : Int) (r : List Int) : numB (c :: r) = c.toNat + 256 * numB r := rfl
theorem byt_drop {xs : List Int} (h : Byt xs) (k : Nat) : Byt (xs.drop k) := fun x hx => h x (List.mem_of_mem_drop hx)
theorem byt_take {xs : List Int} (h : Byt xs) (k : Nat) : Byt (xs.take k) := fun x hx => h x (List.mem_of_mem_take hx)
/-- Four bytes at a place. -/
theorem num4 {xs : List Int} {a : Nat} (h : a + 4 ≤ xs.length) (hb : Byt xs) : ∃ c0 c1 c2 c3 : Nat, c0 < 256 ∧ c1 < 256 ∧ c2 < 256 ∧ c3 < 256 ∧ xs.getD a 0 = (c0 : Int) ∧ xs.getD (a + 1) 0 = (c1 : Int) ∧ xs.getD (a + 2) 0 = (c2 : Int) ∧ xs.getD (a + 3) 0 = (c3 : Int) ∧
    numB ((xs.drop a).take 4) = c0 + 256 * (c1 + 256 * (c2 + 256 * c3)) := by
  have h0 := byt_getD hb a
  have h1 := byt_getD hb (a + 1)
  have h2 := byt_getD hb (a + 2)
  have h3 := byt_getD hb (a + 3)
  refine ⟨(xs.getD a 0).toNat, (xs.getD (a + 1) 0).toNat, (xs.getD (a + 2) 0).toNat, (xs.getD (a + 3) 0).toNat, by omega, by omega, by omega, by omega, by omega, by omega, by omega, by omega, ?_⟩
  rw [drop_getD (show a < xs.length by omega), drop_getD (show a + 1 < xs.length by omega), drop_getD (show a + 1 + 1 < xs.length by omega), drop_getD (show a + 1 + 1 + 1 < xs.length by omega)]
  simp [numB]
theorem or4 {c0 c1 c2 c3 : Nat} (h0 : c0 < 256) (h1 : c1 < 256) (h2 : c2 < 256) (h3 : c3 < 256) :
    bits .or .u32 (c0 : Int) (((256 * c1 : Nat)) : Int) = ((c0 + 256 * c1 : Nat) : Int) ∧ bits .or .u32 ((c0 + 256 * c1 : Nat) : Int) ((65536 * c2 : Nat) : Int) = ((c0 + 256 * c1 + 65536 * c2 : Nat) : Int) ∧
    bits .or .u32 ((c0 + 256 * c1 + 65536 * c2 : Nat) : Int) ((16777216 * c3 : Nat) : Int) = ((c0 + 256 * (c1 + 256 * (c2 + 256 * c3)) : Nat) : Int) := by
  refine ⟨?_, ?_, ?_⟩
  · rw [or32 (by omega) (by omega), Nat.or_comm, show 256 * c1 = 2 ^ 8 * c1 from rfl, or_apart (by omega)]; omega
  · rw [or32 (by omega) (by omega), Nat.or_comm, show 65536 * c2 = 2 ^ 16 * c2 from rfl, or_apart (by omega)]; omega
  · rw [or32 (by omega) (by omega), Nat.or_comm, show 16777216 * c3 = 2 ^ 24 * c3 from rfl, or_apart (by omega)]; omega
set_option maxHeartbeats 2000000 in
set_option maxRecDepth 100000 in
theorem get32 {w : World} {A : Option Addr} {n c : Nat} {xs : List Int} (h : Rd w .u8 A n c xs) (hb : Byt xs) {a : Nat} (ha : a + 4 ≤ n) :
    Calls Try.prog 51 #[.slice A n c, .int .i64 (a : Nat)] w fun e w' => e = .returned (.int .u32 ((numB ((xs.drop a).take 4) : Nat) : Int)) ∧ Below w.heap.size w w' := by
  have hl := h.len
  have hm := h.max
  obtain ⟨c0, c1, c2, c3, h0, h1, h2, h3, e0, e1, e2, e3, hn⟩ := num4 (show a + 4 ≤ xs.length by omega) hb
  obtain ⟨ad, rfl, hcell⟩ := h.cell (by omega)
  have x0 := hcell a (by omega)
  have x1 := hcell (a + 1) (by omega)
  have x2 := hcell (a + 2) (by omega)
  have x3 := hcell (a + 3) (by omega)
  rw [e0] at x0
  rw [e1] at x1
  rw [e2] at x2
  rw [e3] at x3
  obtain ⟨o1, o2, o3⟩ := or4 h0 h1 h2 h3
  rw [← hn] at o3
  obtain ⟨r, hr⟩ : ∃ r, r = numB ((xs.drop a).take 4) := ⟨_, rfl⟩
  rw [← hr] at o3 ⊢
  have w1 : ((a : Int) + 1).toNat = a + 1 := by omega
  have v1 : (a : Int) + 1 < (n : Int) := by omega
  have u1 : (0 : Int) ≤ (a : Int) + 1 := by omega
  have z1 : IntKind.i64.wrap ((a : Int) + 1) = (a : Int) + 1 := IntWalk.i64_in _ (by omega)
  have w2 : ((a : Int) + 2).toNat = a + 2 := by omega
  have v2 : (a : Int) + 2 < (n : Int) := by omega
  have u2 : (0 : Int) ≤ (a : Int) + 2 := by omega
  have z2 : IntKind.i64.wrap ((a : Int) + 2) = (a : Int) + 2 := IntWalk.i64_in _ (by omega)
  have w3 : ((a : Int) + 3).toNat = a + 3 := by omega
  have v3 : (a : Int) + 3 < (n : Int) := by omega
  have u3 : (0 : Int) ≤ (a : Int) + 3 := by omega
  have z3 : IntKind.i64.wrap ((a : Int) + 3) = (a : Int) + 3 := IntWalk.i64_in _ (by omega)
  have m0 : IntKind.u32.wrap (c0 : Int) = (c0 : Int) := w32 _ (by omega) (by omega)
  have m1 : IntKind.u32.wrap (c1 : Int) = (c1 : Int) := w32 _ (by omega) (by omega)
  have m2 : IntKind.u32.wrap (c2 : Int) = (c2 : Int) := w32 _ (by omega) (by omega)
  have m3 : IntKind.u32.wrap (c3 : Int) = (c3 : Int) := w32 _ (by omega) (by omega)
  have s1 : IntKind.u32.wrap ((c1 : Int) * 256) = ((256 * c1 : Nat) : Int) := (w32 _ (by omega) (by omega)).trans (by omega)
  have t1 : IntKind.u32.wrap ((c1 : Int) * 2 ^ 8) = ((256 * c1 : Nat) : Int) := (w32 _ (by omega) (by omega)).trans (by omega)
  have s2 : IntKind.u32.wrap ((c2 : Int) * 65536) = ((65536 * c2 : Nat) : Int) := (w32 _ (by omega) (by omega)).trans (by omega)
  have t2 : IntKind.u32.wrap ((c2 : Int) * 2 ^ 16) = ((65536 * c2 : Nat) : Int) := (w32 _ (by omega) (by omega)).trans (by omega)
  have s3 : IntKind.u32.wrap ((c3 : Int) * 16777216) = ((16777216 * c3 : Nat) : Int) := (w32 _ (by omega) (by omega)).trans (by omega)
  have t3 : IntKind.u32.wrap ((c3 : Int) * 2 ^ 24) = ((16777216 * c3 : Nat) : Int) := (w32 _ (by omega) (by omega)).trans (by omega)
  have q0 : a < n := by omega
  have q1 : a + 1 < n := by omega
  have q2 : a + 2 < n := by omega
  have q3 : a + 3 < n := by omega
  have y1 : w.cell? ⟨ad.block, ad.off + (a + 1), none⟩ = some (.int .u8 (c1 : Int)) := by simpa [Addr.add] using x1
  have y2 : w.cell? ⟨ad.block, ad.off + (a + 2), none⟩ = some (.int .u8 (c2 : Int)) := by simpa [Addr.add] using x2
  have y3 : w.cell? ⟨ad.block, ad.off + (a + 3), none⟩ = some (.int .u8 (c3 : Int)) := by simpa [Addr.add] using x3
  have hfin : bits .or .u32 (bits .or .u32 (bits .or .u32 (c0 : Int) (256 * (c1 : Int))) (65536 * (c2 : Int))) (16777216 * (c3 : Int)) = (r : Int) := by
    rw [show (256 : Int) * (c1 : Int) = ((256 * c1 : Nat) : Int) by omega, o1, show (65536 : Int) * (c2 : Int) = ((65536 * c2 : Nat) : Int) by omega, o2, show (16777216 : Int) * (c3 : Int) = ((16777216 * c3 : Nat) : Int) by omega, o3]
  clear o1 o2 o3 hcell hr hn e0 e1 e2 e3 h hb hl
  go_enter Try.func51, Try.ntmps51
  go_wp2_with fail
  go_quiet (fail)
  go_wp2_with fail
  go_ret
  exact ⟨ret_int (by first | rfl | exact hfin), by first | exact Below.refl _ _ | exact (Below.refl _ _).drew | exact below_drewN (Below.refl _ _) _⟩
theorem rd_new4 (w : World) (k : IntKind) (e : TypeId) (z0 z1 z2 z3 : Int) : Rd (w.alloc (.cells #[.int k z0, .int k z1, .int k z2, .int k z3] e)) k (some ⟨w.heap.size, 0, none⟩) 4 4 [z0, z1, z2, z3] :=
  ⟨rfl, by omega, (fun e => by cases e), fun _ => ⟨_, rfl, fun j hj => by
    rw [Addr.add_lit]
    refine cells_top (heap_alloc_new w _) _ _ ?_
    match j, hj with
    | 0, _ => rfl
    | 1, _ => rfl
    | 2, _ => rfl
    | 3, _ => rfl⟩⟩
theorem low4 {x : Nat} (hx : x < 4294967296) : ∃ b0 b1 b2 b3 : Nat, lowB x 4 = [(b0 : Int), (b1 : Int), (b2 : Int), (b3 : Int)] ∧ (x : Int) % 256 = (b0 : Int) ∧ (x : Int) / 256 % 256 = (b1 : Int) ∧ (x : Int) / 65536 % 256 = (b2 : Int) ∧ (x : Int) / 16777216 = (b3 : Int) ∧ (b3 : Int) % 256 = (b3 : Int) :=
  ⟨x % 256, x / 256 % 256, x / 65536 % 256, x / 16777216, by simp [lowB]; omega, by omega, by omega, by omega, by omega, by omega⟩
/-- What an append to a row of the call's own tells. -/
def AppP (B : Nat) (v : Value) (zs : List Int) (w : World) (e : Ending) (w' : World) : Prop :=
  ∃ A' n' c', e = .returned (.slice A' n' c') ∧ Nu .u8 5 B w' (.slice A' n' c') zs ∧ Fr w w' (fun q => some q = v.ownBlock) ∧ Below B w w'
set_option maxHeartbeats 2000000 in
set_option maxRecDepth 100000 in
theorem put32 {B : Nat} {w : World} {v : Value} {xs : List Int} (h : Nu .u8 5 B w v xs) (hB : B ≤ w.heap.size) (hn : xs.length ≤ 1000000000) {x : Nat} (hx : x < 4294967296) :
    Calls Try.prog 28 #[v, .int .u32 (x : Nat)] w (AppP B v (xs ++ lowB x 4) w) := by
  obtain ⟨b0, b1, b2, b3, hL, e0, e1, e2, e3, e4⟩ := low4 hx
  obtain ⟨A, c, rfl⟩ := h.slice
  have HN2 := Kp.mk (h.below (alloc_below w (.cells #[.int .u8 (b0 : Int), .int .u8 (b1 : Int), .int .u8 (b2 : Int), .int .u8 (b3 : Int)] 5)))
  have HB2 : Kp (Below w.heap.size w (w.alloc (.cells #[.int .u8 (b0 : Int), .int .u8 (b1 : Int), .int .u8 (b2 : Int), .int .u8 (b3 : Int)] 5))) := ⟨alloc_below _ _⟩
  have HR := Kp.mk (rd_new4 w .u8 5 b0 b1 b2 b3)
  have HL := Kp.mk hL
  have Hn := Kp.mk hn
  have HBs := Kp.mk hB
  obtain ⟨m, hm⟩ : ∃ m, m = xs.length := ⟨_, rfl⟩
  rw [← hm] at HN2 ⊢
  have Hm := Kp.mk hm
  clear h hL hn hB hm
  go_enter Try.func28, Try.ntmps28
  go_wp2_with (at_builtin; go_must (refine wpList_append_nu rfl (.tmp 5) (.tmp 17) 25 5 .u8 1 B rfl Try.underlying25 Try.infoU8 (by decide) (.slice A m c) 4 4 xs [(b0 : Int), (b1 : Int), (b2 : Int), (b3 : Int)] (some ⟨w.heap.size, 0, none⟩) rfl rfl HN2.out HR.out (by have := Hn.out; omega) (Nat.le_trans HBs.out HB2.out.size) ?_); intro A2 c2 w2 h1 h2 h3; rw [← HL.out] at h1; have HN3 := Kp.mk h1; have HF3 := Kp.mk h2; have HB3 := Kp.mk h3; clear h1 h2 h3)
  go_ret
  exact ⟨A2, _, c2, rfl, HN3.out, (Fr.of_below HB2.out).trans HF3.out (fun k hk => .inl hk), (HB2.out.mono HBs.out).trans HB3.out⟩
set_option maxHeartbeats 2000000 in
set_option maxRecDepth 100000 in
theorem ref_masked {w : World} {A : Option Addr} {n c : Nat} {xs : List Int} (h : Rd w .u8 A n c xs) (hb : Byt xs) :
    Calls Try.prog 36 #[.slice A n c] w fun e w' => ∃ A' c', e = .returned (.slice A' 4 c') ∧ Nu .u8 5 w.heap.size w' (.slice A' 4 c') (lowB (maskN (crcN xs)) 4) ∧ Below w.heap.size w w' := by
  have hlt := crcN_lt hb
  have hc := ref_crc h hb
  obtain ⟨s, hs⟩ : ∃ s, s = crcN xs := ⟨_, rfl⟩
  rw [← hs] at hlt hc ⊢
  have hmk := ref_mask w hlt
  have hlt2 := maskN_lt s
  obtain ⟨y, hy⟩ : ∃ y, y = maskN s := ⟨_, rfl⟩
  rw [← hy] at hlt2 hmk ⊢
  have hlo := ref_low (Rd.nil0 w .u8) (x := y) (by omega) (m := 4) (by omega) (by omega)
  rw [Nat.zero_add, List.nil_append] at hlo
  have HC := Kp.mk hc
  have HM := Kp.mk hmk
  have HL := Kp.mk hlo
  have hyy : (y : Int) % 18446744073709551616 = (y : Int) := by omega
  clear h hlt hs hy hc hmk hlo hlt2
  go_enter Try.func36, Try.ntmps36
  go_wp2_with (first
    | (go_at_call 55; refine HC.out.mono ?_; rintro e w1 ⟨rfl, hw1⟩; subst hw1)
    | (go_at_call 54; refine HM.out.mono ?_; rintro e w1 ⟨rfl, hw1⟩; subst hw1)
    | (go_at_call 47; refine HL.out.mono ?_; rintro e w2 ⟨A', c', rfl, h1, h2⟩; have H1 := Kp.mk h1; have H2 := Kp.mk h2; clear h1 h2))
  go_ret
  exact ⟨A', c', rfl, H1.out, H2.out⟩
end Go.Proofs.Ytinffeffffligaa.Bas
