import Derived.Test.YtinffeffffligaaBlF
set_option linter.unusedVariables false
set_option linter.unusedSimpArgs false
namespace Go.Proofs.Ytinffeffffligaa.Bas
open Go.RowKit Go.Maps

/-! ### A row of numbers of the call's own -/
structure Nu (k : IntKind) (e : TypeId) (B : Nat) (w : World) (v : Value) (xs : List Int) : Prop where
  own : w.ownsRow B e 1 v xs.length (nums k xs)
section
variable {k : IntKind} {e : TypeId} {B : Nat} {w W : World} {v : Value} {xs : List Int}
theorem Nu.nil (k : IntKind) (e : TypeId) (B : Nat) (w : World) : Nu k e B w (.slice none 0 0) [] := ⟨⟨rfl, .inl ⟨rfl, rfl⟩⟩⟩
theorem Nu.kept {S : Nat → Prop} (h : Nu k e B w v xs) (hf : Fr w W S) (hS : ∀ q, v.ownBlock = some q → ¬ S q) : Nu k e B W v xs :=
  ⟨row_heap h.own (fun q hq => hf.block q (own_blk_lt h.own q hq) (hS q hq))⟩
theorem Nu.below (h : Nu k e B w v xs) (hb : Below w.heap.size w W) : Nu k e B W v xs := h.kept (S := fun _ => False) (Fr.of_below hb) (fun _ _ h => h)
theorem Nu.slice (h : Nu k e B w v xs) : ∃ A c, v = .slice A xs.length c := row_slice h.own
theorem Nu.lt (h : Nu k e B w v xs) : ∀ q, v.ownBlock = some q → q < w.heap.size := own_blk_lt h.own
theorem Nu.base (h : Nu k e B w v xs) : ∀ q, v.ownBlock = some q → B ≤ q := by
  intro q hq
  rcases h.own.2 with ⟨e1, _⟩ | ⟨g, cap, cur, e1, hB, _⟩
  · rw [e1] at hq; cases hq
  · rw [e1] at hq
    cases hq
    exact hB
theorem Nu.lower {B' : Nat} (h : Nu k e B w v xs) (hB : B' ≤ B) : Nu k e B' w v xs := by
  obtain ⟨h1, h2⟩ := h.own
  refine ⟨⟨h1, ?_⟩⟩
  rcases h2 with h2 | ⟨g, cap, cur, hv, hg, hh, r⟩
  · exact .inl h2
  · exact .inr ⟨g, cap, cur, hv, Nat.le_trans hB hg, hh, r⟩
theorem Nu.rd {A : Option Addr} {n c : Nat} (h : Nu k e B w (.slice A n c) xs) (hn : xs.length ≤ 140737488355328) : n = xs.length ∧ Rd w k A n c xs ∧ ∀ ad, A = some ad → B ≤ ad.block := by
  obtain ⟨A', c', e1⟩ := h.slice
  injection e1 with e2 e3 e4
  subst e2 e3 e4
  have := own_rd h.own hn
  exact ⟨rfl, this.1, fun ad e => (this.2 ad e).2.1⟩
end
theorem rd_new1 (w : World) (k : IntKind) (e : TypeId) (z : Int) : Rd (w.alloc (.cells #[.int k z] e)) k (some ⟨w.heap.size, 0, none⟩) 1 1 [z] :=
  ⟨rfl, by omega, (fun e => by cases e), fun _ => ⟨_, rfl, fun j hj => by
    obtain rfl : j = 0 := by omega
    rw [Addr.add_lit]
    exact cells_top (heap_alloc_new w _) 0 _ rfl⟩⟩
/-- append(v, ys...): v the call's own or nil, ys whatever is read. -/
theorem wpList_append_nu {P : Program} {w : World} {ops : Array Oper} {rest : List Oper} {o : Oper} {a : Act} {Q : Exit → Act → World → Prop} (hgd : o.guard = none) (s x : Operand) (t e : TypeId) (k : IntKind) (bytes B : Nat)
    (ho : o.op = .call { callee := .builtin .append, args := #[s, x], argTypes := #[t, t] })
    (ht : P.underlying t = some (.slice e)) (hinfo : (P.info? e).map (fun i => (i.zero, i.size, i.bytes)) = some (some (.int k 0), 1, bytes)) (hb0 : 0 < bytes)
    (v : Value) (m c : Nat) (xs ys : List Int) (A : Option Addr) (hs : a.eval s = v) (hx : a.eval x = .slice A m c) (hown : Nu k e B w v xs) (hr : Rd w k A m c ys)
    (hl : (xs.length + m) * bytes ≤ 140737488355328) (hbase : B ≤ w.heap.size)
    (h : ∀ A' c' w', Nu k e B w' (.slice A' (xs.length + m) c') (xs ++ ys) → Fr w w' (fun q => some q = v.ownBlock) → Below B w w' → wpList P ops Q rest (a.put o.dst (.slice A' (xs.length + m) c')) w') :
    wpList P ops Q (o :: rest) a w :=
  wpList_append_rd w hgd s x t e k bytes B ho ht hinfo hb0 v xs.length m c xs ys A hs hx hown.own hr hl hbase fun A' c' w' h1 h2 h3 =>
    h A' c' w' ⟨by rw [List.length_append, hr.len]; exact h1⟩ (Fr.grown (S := fun q => some q = v.ownBlock) (Fr.refl w _) h2 (fun q hq => .inl hq.symm)) ((Below.refl _ _).grown h2 hbase hown.base)

/-- append(nil, ys...): new memory. -/
theorem wpList_append_new {P : Program} {w : World} {ops : Array Oper} {rest : List Oper} {o : Oper} {a : Act} {Q : Exit → Act → World → Prop} (hgd : o.guard = none) (s x : Operand) (t e : TypeId) (k : IntKind) (bytes : Nat)
    (ho : o.op = .call { callee := .builtin .append, args := #[s, x], argTypes := #[t, t] })
    (ht : P.underlying t = some (.slice e)) (hinfo : (P.info? e).map (fun i => (i.zero, i.size, i.bytes)) = some (some (.int k 0), 1, bytes)) (hb0 : 0 < bytes)
    (m c : Nat) (ys : List Int) (A : Option Addr) (hs : a.eval s = .slice none 0 0) (hx : a.eval x = .slice A m c) (hr : Rd w k A m c ys) (hl : m * bytes ≤ 140737488355328)
    (h : ∀ A' c' w', Nu k e w.heap.size w' (.slice A' m c') ys → Below w.heap.size w w' → wpList P ops Q rest (a.put o.dst (.slice A' m c')) w') :
    wpList P ops Q (o :: rest) a w :=
  wpList_append_nu hgd s x t e k bytes w.heap.size ho ht hinfo hb0 (.slice none 0 0) m c [] ys A hs hx (Nu.nil _ _ _ _) hr (by simpa using hl) (Nat.le_refl _) fun A' c' w' h1 _ h3 => by
    simp only [List.length_nil, Nat.zero_add, List.nil_append] at h1 ⊢
    exact h A' c' w' h1 h3

/-! ### Numbers in bytes -/
def lowB (x : Nat) : Nat → List Int
  | 0 => []
  | n + 1 => lowB x n ++ [((x / 256 ^ n % 256 : Nat) : Int)]
theorem lowB_len (x : Nat) : ∀ n, (lowB x n).length = n
  | 0 => rfl
  | n + 1 => by simp [lowB, lowB_len x n]
theorem lowB_byt (x : Nat) : ∀ n, Byt (lowB x n)
  | 0 => fun y hy => by cases hy
  | n + 1 => fun y hy => by
    rcases List.mem_append.1 hy with hy | hy
    · exact lowB_byt x n y hy
    · rw [List.mem_singleton.1 hy]; omega
theorem byt_append {a b : List Int} (ha : Byt a) (hb : Byt b) : Byt (a ++ b) := fun x hx => by
  rcases List.mem_append.1 hx with h | h
  · exact ha x h
  · exact hb x h
theorem low_bits {x : Nat} (hx : x < 18446744073709551616) (j : Nat) : bits .and .u64 ((x : Int) / 2 ^ (8 * j)) 255 = ((x / 256 ^ j % 256 : Nat) : Int) := by
  have e : (x : Int) / 2 ^ (8 * j) = ((x / 256 ^ j : Nat) : Int) := by
    rw [show (256 : Nat) = 2 ^ 8 from rfl, ← Nat.pow_mul]
    simp
  have hl : x / 256 ^ j < 18446744073709551616 := Nat.lt_of_le_of_lt (Nat.div_le_self _ _) hx
  rw [e, show (255 : Int) = ((255 : Nat) : Int) from rfl, and64 hl (by omega), and255]
set_option maxHeartbeats 2000000 in
set_option maxRecDepth 100000 in
theorem ref_low {w : World} {A : Option Addr} {n c : Nat} {xs : List Int} (h : Rd w .u8 A n c xs) {x : Nat} (hx : x < 18446744073709551616) {m : Nat} (hm : m ≤ 8) (hn : n ≤ 1000000000) :
    Calls Try.prog 47 #[.slice A n c, .int .u64 (x : Int), .int .i64 (m : Int)] w fun e w' => ∃ A' c', e = .returned (.slice A' (n + m) c') ∧ Nu .u8 5 w.heap.size w' (.slice A' (n + m) c') (xs ++ lowB x m) ∧ Below w.heap.size w w' := by
  have hl := h.len
  have H := Kp.mk h
  clear h
  go_enter Try.func47, Try.ntmps47
  go_wp2_with (at_builtin; go_must (refine wpList_append_new rfl (.const (.slice none 0 0)) (.tmp 9) 25 5 .u8 1 rfl Try.underlying25 Try.infoU8 (by decide) n c xs A rfl rfl H.out (by omega) ?_); intro A1 c1 w1 h1 h3; have HN := Kp.mk h1; have HB := Kp.mk h3; clear h1 h3)
  go_loopw [7, 8] (fun v i wr => ∃ j A' c', j ≤ m ∧ i = .int .i64 (j : Nat) ∧ v = .slice A' (n + j) c' ∧ Kp (Nu .u8 5 w.heap.size wr (.slice A' (n + j) c') (xs ++ lowB x j)) ∧ Kp (Below w.heap.size w wr)) (fun _ i _ => m - (intOf i).toNat)
  case atStart => exact ⟨0, A1, c1, Nat.zero_le _, rfl, rfl, ⟨by rw [show xs ++ lowB x 0 = xs by simp [lowB]]; exact HN.out⟩, HB⟩
  case round =>
    obtain ⟨j, A', c', hj, rfl, rfl, HN, HB⟩ := hrel
    by_cases hlt : j < m
    · obtain ⟨s, hs⟩ : ∃ s : Nat, s = 8 * j := ⟨_, rfl⟩
      have hw : IntKind.i64.wrap ((8 : Int) * (j : Int)) = (s : Int) := (IntWalk.i64_in _ (by omega)).trans (by omega)
      have hs2 : s < 64 := by omega
      obtain ⟨y, hy⟩ : ∃ y : Nat, y = x / 256 ^ j % 256 := ⟨_, rfl⟩
      have hb := low_bits hx j
      rw [← hs, ← hy] at hb
      have hy2 : (y : Int) % 256 = (y : Int) := by omega
      have HL : Kp (lowB x (j + 1) = lowB x j ++ [(y : Int)]) := ⟨by rw [hy]; rfl⟩
      have HN2 := Kp.mk (HN.out.below (alloc_below wr (.cells #[.int .u8 (y : Int)] 5)))
      have HB2 := Kp.mk (HB.out.alloc HB.out.size (.cells #[.int .u8 (y : Int)] 5))
      have hxl : (xs ++ lowB x j).length = n + j := by rw [List.length_append, lowB_len, hl]
      clear hs hy
      go_wp2_with (at_builtin; go_must (refine wpList_append_nu rfl (.tmp 16) (.tmp 24) 25 5 .u8 1 w.heap.size rfl Try.underlying25 Try.infoU8 (by decide) (.slice A' (n + j) c') 1 1 (xs ++ lowB x j) [(y : Int)] (some ⟨wr.heap.size, 0, none⟩) rfl rfl HN2.out (rd_new1 _ _ _ _) (by rw [hxl]; omega) HB2.out.size ?_); intro A2 c2 w2 h1 h2 h3; rw [hxl, List.append_assoc, ← HL.out] at h1; rw [hxl]; have HN3 := Kp.mk h1; have HB3 := Kp.mk (HB2.out.trans h3); clear h1 h2 h3)
      go_roundw
      case rel => exact ⟨j + 1, A2, c2, by omega, by go_num, rfl, HN3, HB3⟩
      case measure => simp [intOf]; omega
    · obtain rfl : m = j := by omega
      go_wp2_with fail
      go_ret
      exact ⟨A', c', rfl, HN.out, HB.out⟩
end Go.Proofs.Ytinffeffffligaa.Bas
