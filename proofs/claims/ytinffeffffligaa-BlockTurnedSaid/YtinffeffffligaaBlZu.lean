import Derived.Test.YtinffeffffligaaBlZl
import Derived.Test.YtinffeffffligaaBlZk
set_option linter.unusedVariables false
set_option linter.unusedSimpArgs false
namespace Go.Proofs.Ytinffeffffligaa.Bas
open Go.RowKit Go.Maps

/-! ### A turned bit turns the sum -/
def invT : List Nat := [0, 241, 226, 19, 196, 53, 38, 215, 136, 121, 106, 155, 76, 189, 174, 95, 16, 225, 242, 3, 212, 37, 54, 199, 152, 105, 122, 139, 92, 173, 190, 79, 32, 209, 194, 51, 228, 21, 6, 247, 168, 89, 74, 187, 108, 157, 142, 127, 48, 193, 210, 35, 244, 5, 22, 231, 184, 73, 90, 171, 124, 141, 158, 111, 177, 64, 83, 162, 117, 132, 151, 102, 57, 200, 219, 42, 253, 12, 31, 238, 161, 80, 67, 178, 101, 148, 135, 118, 41, 216, 203, 58, 237, 28, 15, 254, 145, 96, 115, 130, 85, 164, 183, 70, 25, 232, 251, 10, 221, 44, 63, 206, 129, 112, 99, 146, 69, 180, 167, 86, 9, 248, 235, 26, 205, 60, 47, 222, 98, 147, 128, 113, 166, 87, 68, 181, 234, 27, 8, 249, 46, 223, 204, 61, 114, 131, 144, 97, 182, 71, 84, 165, 250, 11, 24, 233, 62, 207, 220, 45, 66, 179, 160, 81, 134, 119, 100, 149, 202, 59, 40, 217, 14, 255, 236, 29, 82, 163, 176, 65, 150, 103, 116, 133, 218, 43, 56, 201, 30, 239, 252, 13, 211, 34, 49, 192, 23, 230, 245, 4, 91, 170, 185, 72, 159, 110, 125, 140, 195, 50, 33, 208, 7, 246, 229, 20, 75, 186, 169, 88, 143, 126, 109, 156, 243, 2, 17, 224, 55, 198, 213, 36, 123, 138, 153, 104, 191, 78, 93, 172, 227, 18, 1, 240, 39, 214, 197, 52, 107, 154, 137, 120, 175, 94, 77, 188]
theorem xor_left {a b c : Nat} (h : a ^^^ b = a ^^^ c) : b = c := by
  have h1 : a ^^^ (a ^^^ b) = a ^^^ (a ^^^ c) := by rw [h]
  rw [← Nat.xor_assoc, ← Nat.xor_assoc, Nat.xor_self, Nat.zero_xor, Nat.zero_xor] at h1
  exact h1
theorem xor_right {a b c : Nat} (h : b ^^^ a = c ^^^ a) : b = c := by
  rw [Nat.xor_comm b a, Nat.xor_comm c a] at h
  exact xor_left h
theorem tab_top : ∀ i, i < 256 → invT.getD (tabN i / 16777216) 0 = i := by
  have h : (List.range 256).all (fun i => invT.getD (tabN i / 16777216) 0 == i) = true := by decide +kernel
  intro i hi
  have := List.all_eq_true.1 h i (List.mem_range.2 hi)
  simpa using this
theorem tab_one {i j : Nat} (hi : i < 256) (hj : j < 256) (h : tabN i / 16777216 = tabN j / 16777216) : i = j := by
  rw [← tab_top i hi, ← tab_top j hj, h]
theorem xor_top {a b : Nat} (ha : a < 16777216) (hb : b < 4294967296) : (a ^^^ b) / 16777216 = b / 16777216 := by
  have h := Nat.shiftRight_xor_distrib (a := a) (b := b) (i := 24)
  rw [Nat.shiftRight_eq_div_pow, Nat.shiftRight_eq_div_pow, Nat.shiftRight_eq_div_pow] at h
  rw [show (2 : Nat) ^ 24 = 16777216 from rfl] at h
  rw [h, Nat.div_eq_of_lt ha, Nat.zero_xor]
theorem crcF_idx {x y : Nat} {c d : Int} (hx : x < 4294967296) (hy : y < 4294967296) (hc : 0 ≤ c ∧ c ≤ 255) (hd : 0 ≤ d ∧ d ≤ 255) (h : crcF x c = crcF y d) : (x % 256) ^^^ c.toNat = (y % 256) ^^^ d.toNat ∧ x / 256 = y / 256 := by
  unfold crcF at h
  have i1 := idx_lt (x := x) hc
  have i2 := idx_lt (x := y) hd
  have t1 := tabN_lt i1
  have t2 := tabN_lt i2
  have h2 : (x / 256 ^^^ tabN (x % 256 ^^^ c.toNat)) / 16777216 = (y / 256 ^^^ tabN (y % 256 ^^^ d.toNat)) / 16777216 := by rw [h]
  rw [xor_top (by omega) t1, xor_top (by omega) t2] at h2
  have e := tab_one i1 i2 h2
  refine ⟨e, ?_⟩
  rw [e] at h
  exact xor_right h
theorem crcF_state {x y : Nat} {c : Int} (hx : x < 4294967296) (hy : y < 4294967296) (hc : 0 ≤ c ∧ c ≤ 255) (h : crcF x c = crcF y c) : x = y := by
  obtain ⟨h1, h2⟩ := crcF_idx hx hy hc hc h
  have := xor_right h1
  omega
theorem crcF_byte {x : Nat} {c d : Int} (hx : x < 4294967296) (hc : 0 ≤ c ∧ c ≤ 255) (hd : 0 ≤ d ∧ d ≤ 255) (h : crcF x c = crcF x d) : c = d := by
  obtain ⟨h1, _⟩ := crcF_idx hx hx hc hd h
  have := xor_left h1
  omega
theorem fold_state : ∀ (xs : List Int), (∀ c ∈ xs, 0 ≤ c ∧ c ≤ 255) → ∀ x y, x < 4294967296 → y < 4294967296 → xs.foldl crcF x = xs.foldl crcF y → x = y
  | [], _, x, y, _, _, h => h
  | c :: r, hb, x, y, hx, hy, h => by
    have hc := hb c (by simp)
    exact crcF_state hx hy hc (fold_state r (fun d hd => hb d (List.mem_cons_of_mem _ hd)) _ _ (crcF_lt hx hc) (crcF_lt hy hc) h)
theorem crc_turn {pre suf : List Int} {c d : Int} (hp : Byt pre) (hs : Byt suf) (hc : 0 ≤ c ∧ c ≤ 255) (hd : 0 ≤ d ∧ d ≤ 255) (hne : c ≠ d) : crcN (pre ++ c :: suf) ≠ crcN (pre ++ d :: suf) := by
  intro h
  unfold crcN crcS at h
  have h2 := xor_left h
  rw [List.foldl_append, List.foldl_append, List.foldl_cons, List.foldl_cons] at h2
  have hx := crcFold_lt pre hp 4294967295 (by omega)
  exact hne (crcF_byte hx hc hd (fold_state suf hs _ _ (crcF_lt hx hc) (crcF_lt hx hd) h2))
/-- One byte is another one: the sum does not hold any more. -/
theorem sum_turned {xs : List Int} (hb : Byt xs) (h8 : 8 ≤ xs.length) (hs : SumOk xs) {p : Nat} (hp : p < xs.length) {d : Int} (hd : 0 ≤ d ∧ d ≤ 255) (hne : xs.getD p 0 ≠ d) : ¬ SumOk (xs.set p d) := by
  intro h
  unfold SumOk at hs h
  rw [List.length_set] at h
  have hbp : 0 ≤ xs.getD p 0 ∧ xs.getD p 0 ≤ 255 := hb _ (by simp [List.getD, hp])
  rcases Nat.lt_or_ge p (xs.length - 4) with hlt | hge
  · have e1 : (xs.set p d).drop (xs.length - 4) = xs.drop (xs.length - 4) := by
      rw [List.drop_set, if_pos (by omega)]
    rw [e1, hs] at h
    have e2 : (xs.set p d).take (xs.length - 4) = (xs.take (xs.length - 4)).set p d := by rw [List.take_set]
    rw [e2] at h
    obtain ⟨t, ht⟩ : ∃ t, t = xs.take (xs.length - 4) := ⟨_, rfl⟩
    have htb : Byt t := by rw [ht]; exact byt_take hb _
    have htl : p < t.length := by rw [ht, List.length_take]; omega
    have htp : t.getD p 0 = xs.getD p 0 := by rw [ht]; simp [List.getD, List.getElem?_take_of_lt hlt]
    rw [← ht] at h
    have h1 : t = t.take p ++ t.getD p 0 :: t.drop (p + 1) := by
      have := List.take_append_drop p t
      rw [drop_at htl] at this
      exact this.symm
    have h2 : t.set p d = t.take p ++ d :: t.drop (p + 1) := by
      rw [List.set_eq_take_append_cons_drop, if_pos htl]
    rw [h2] at h
    conv at h => lhs; rw [h1]
    unfold sumB at h
    have b1 := byt_take htb p
    have b2 := byt_drop htb (p + 1)
    have h3 := lowB_inj (maskN_lt _) (maskN_lt _) h
    have c1 : Byt (t.take p ++ t.getD p 0 :: t.drop (p + 1)) := by rw [← h1]; exact htb
    have c2 : Byt (t.take p ++ d :: t.drop (p + 1)) := byt_append b1 (fun x hx => by
      rcases List.mem_cons.1 hx with h | h
      · rw [h]; exact hd
      · exact b2 x h)
    have h4 := congrArg unmaskN h3
    rw [unmask_mask (crcN_lt c1), unmask_mask (crcN_lt c2)] at h4
    exact crc_turn b1 b2 (by rw [htp]; exact hbp) hd (by rw [htp]; exact hne) h4
  · have e1 : (xs.set p d).take (xs.length - 4) = xs.take (xs.length - 4) := by
      rw [List.take_set, List.set_eq_of_length_le (by rw [List.length_take]; omega)]
    rw [e1, ← hs] at h
    rw [List.drop_set, if_neg (by omega)] at h
    have h2 := congrArg (fun l => l.getD (p - (xs.length - 4)) 0) h
    have hl : p - (xs.length - 4) < (xs.drop (xs.length - 4)).length := by rw [List.length_drop]; omega
    simp only [List.getD_eq_getElem?_getD, List.getElem?_set_self hl, List.getElem?_drop, Option.getD_some] at h2
    rw [show xs.length - 4 + (p - (xs.length - 4)) = p by omega] at h2
    exact hne (by rw [List.getD_eq_getElem?_getD]; exact h2.symm)
/-! ### The restarts -/
theorem ends_map (s : Nat) (es : List En) : ∀ i, endsB s es i = (multB s i).map (fun j => (outB s es j).length)
  | 0 => rfl
  | i + 1 => by
    unfold endsB multB
    split
    · rw [ends_map s es i, List.map_append]; rfl
    · exact ends_map s es i
theorem ends_get {s : Nat} (hs : 1 ≤ s) (es : List En) (n : Nat) {i : Nat} (h : i < (endsB s es n).length) : (endsB s es n).getD i 0 = (outB s es (i * s)).length ∧ i * s < n := by
  have hm : i < (multB s n).length := by rw [← endsB_mult s es n]; exact h
  have h1 := multB_get hs hm
  have h2 := multB_lt s n (i * s) (by rw [← h1]; simp [List.getD, hm])
  refine ⟨?_, h2⟩
  rw [ends_map]
  simp only [List.getD_eq_getElem?_getD, List.getElem?_map, List.getElem?_eq_getElem hm] at h1 ⊢
  simp only [Option.getD_some, Option.map_some] at h1 ⊢
  rw [h1]
theorem ends_rise {s : Nat} (hs : 1 ≤ s) (es : List En) (n : Nat) {i : Nat} (h : i + 1 < (endsB s es n).length) : (endsB s es n).getD i 0 < (endsB s es n).getD (i + 1) 0 := by
  rw [(ends_get hs es n h).1, (ends_get hs es n (i := i) (by omega)).1, Nat.add_mul, Nat.one_mul]
  have h1 := outB_lt s es (i * s)
  have h2 := outB_mono s es (i * s + 1) (s - 1)
  rw [show i * s + 1 + (s - 1) = i * s + s by omega] at h2
  omega
theorem ends_byte {s : Nat} (hs : 1 ≤ s) (es : List En) {i : Nat} (h : i < (endsB s es es.length).length) : (endsB s es es.length).getD i 0 < (buildB s es).length ∧ (buildB s es).getD ((endsB s es es.length).getD i 0) 0 = 0 := by
  obtain ⟨h1, h2⟩ := ends_get hs es es.length h
  rw [h1]
  generalize hj : i * s = j at h2
  have hmod : j % s = 0 := by rw [← hj]; exact Nat.mul_mod_left i s
  have h3 : outB s es (j + 1) = outB s es j ++ encE (lastB es j) (kb (es.getD j enD).k) (comB s es j) (es.getD j enD).val := rfl
  have h4 : comB s es j = 0 := by unfold comB; rw [if_pos hmod]
  obtain ⟨r, hr⟩ := outB_pre s es (j + 1) (es.length - (j + 1))
  rw [show j + 1 + (es.length - (j + 1)) = es.length by omega] at hr
  have h5 : ∃ q, buildB s es = outB s es j ++ (0 : Int) :: q := by
    unfold buildB bodyB
    rw [hr, h3, h4]
    unfold encE
    rw [varB_small (show 0 < 128 by omega)]
    simp only [List.append_assoc, List.cons_append, List.nil_append]
    exact ⟨_, rfl⟩
  obtain ⟨q, hq⟩ := h5
  rw [hq]
  constructor
  · simp
  · simp [List.getD]
/-! ### Fewer restarts are never longer -/
theorem varB_mono : ∀ (y x : Nat), x ≤ y → (varB x).length ≤ (varB y).length := by
  intro y
  induction y using Nat.strongRecOn with
  | ind y ih =>
    intro x h
    by_cases h1 : x < 128
    · rw [varB_small h1]
      have := varB_pos y
      simp
      omega
    · rw [varB_big h1, varB_big (show ¬ y < 128 by omega)]
      simp only [List.length_cons]
      have := ih (y / 128) (by omega) (x / 128) (Nat.div_le_div_right h)
      omega
theorem varB_short (x : Nat) : (varB x).length ≤ x + 1 := varB_len x x (by
  have : ∀ n : Nat, n < 128 ^ (n + 1) := by
    intro n
    induction n with
    | zero => decide
    | succ n ih => rw [Nat.pow_succ]; omega
  exact this x)
theorem encE_short (last k v : List Int) {c : Nat} (hc : c ≤ k.length) : (encE last k c v).length ≤ (encE last k 0 v).length := by
  unfold encE
  simp only [List.length_append, List.length_drop, Nat.sub_zero]
  have h1 := varB_short c
  have h2 := varB_mono k.length (k.length - c) (by omega)
  have h3 : (varB 0).length = 1 := by rw [varB_small (by omega)]; rfl
  omega
theorem mod_of {a b i : Nat} (hab : b % a = 0) (h : i % b = 0) : i % a = 0 := by
  obtain ⟨q, hq⟩ := Nat.dvd_of_mod_eq_zero hab
  obtain ⟨r, hr⟩ := Nat.dvd_of_mod_eq_zero h
  rw [hr, hq, Nat.mul_assoc]
  exact Nat.mul_mod_right a _
theorem outB_short {a b : Nat} (hab : b % a = 0) (es : List En) : ∀ i, (outB b es i).length ≤ (outB a es i).length
  | 0 => Nat.le_refl _
  | i + 1 => by
    have ih := outB_short hab es i
    show (outB b es i ++ _).length ≤ (outB a es i ++ _).length
    rw [List.length_append, List.length_append]
    have : (encE (lastB es i) (kb (es.getD i enD).k) (comB b es i) (es.getD i enD).val).length ≤ (encE (lastB es i) (kb (es.getD i enD).k) (comB a es i) (es.getD i enD).val).length := by
      by_cases h1 : i % a = 0
      · have e1 : comB a es i = 0 := by unfold comB; rw [if_pos h1]
        rw [e1]
        exact encE_short _ _ _ (comB_le b es i)
      · have e1 : comB a es i = comB b es i := by
          unfold comB
          rw [if_neg h1, if_neg (fun h => h1 (mod_of hab h))]
        rw [e1]
        exact Nat.le_refl _
    omega
theorem multB_short {a b : Nat} (hab : b % a = 0) : ∀ i, (multB b i).length ≤ (multB a i).length
  | 0 => Nat.le_refl _
  | i + 1 => by
    have ih := multB_short hab i
    unfold multB
    by_cases h1 : i % b = 0
    · rw [if_pos h1, if_pos (mod_of hab h1)]
      simp
      omega
    · rw [if_neg h1]
      split
      · simp; omega
      · exact ih
theorem build_shorter {a b : Nat} (hab : b % a = 0) (es : List En) : (buildB b es).length ≤ (buildB a es).length := by
  rw [buildB_len, buildB_len, endsB_mult, endsB_mult]
  have h1 := outB_short hab es es.length
  have h2 := multB_short hab es.length
  omega
end Go.Proofs.Ytinffeffffligaa.Bas
