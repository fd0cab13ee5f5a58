import Derived.Test.YtgeklapphkgdkaaDskM
set_option linter.unusedVariables false
set_option linter.unusedSimpArgs false
namespace Go.Proofs.Ytgeklapphkgdkaa.Dsk
open Go.RowKit Go.Maps

theorem ret_sl {A : Option Addr} {n m c : Nat} (h : n = m) : Ending.returned (.slice A n c) = .returned (.slice A m c) := by rw [h]
set_option maxHeartbeats 1000000 in
theorem cut_any (w : World) (A : Option Addr) (len cap m : Nat) (n : Int) (hm : m = min n.toNat len) (hl : len ≤ 140737488355328) (hc : len ≤ cap) (hn : -9223372036854775808 ≤ n ∧ n ≤ 9223372036854775807) :
    Calls Try.prog 19 #[.slice A len cap, .int .i64 n] w fun e w' => e = .returned (.slice A m cap) ∧ w' = w := by
  obtain ⟨hn1, hn2⟩ := hn
  have Hm := Kp.mk hm
  clear hm
  by_cases h0 : n < 0
  · have hv : Kp (0 = m) := ⟨by have := Hm.out; omega⟩
    go_enter Try.func19, Try.ntmps19
    go_wp2
    go_ret
    exact ⟨ret_sl hv.out, rfl⟩
  · obtain ⟨k, rfl⟩ := Int.eq_ofNat_of_zero_le (show 0 ≤ n by omega)
    by_cases h1 : (len : Int) < k
    · have hv : Kp (len = m) := ⟨by have := Hm.out; omega⟩
      go_enter Try.func19, Try.ntmps19
      go_wp2
      go_ret
      exact ⟨ret_sl hv.out, rfl⟩
    · have hv : Kp (k = m) := ⟨by have := Hm.out; omega⟩
      go_enter Try.func19, Try.ntmps19
      go_wp2
      go_ret
      exact ⟨ret_sl hv.out, rfl⟩
theorem Rd.take {w : World} {k : IntKind} {A : Option Addr} {n c m : Nat} {xs : List Int} (h : Rd w k A n c xs) (hm : m ≤ n) : Rd w k A m c (xs.take m) :=
  ⟨by rw [List.length_take, h.len]; omega, Nat.le_trans hm h.max, fun e => by have := h.nil e; exact ⟨by omega, this.2⟩, fun hp => by
    obtain ⟨ad, e, hc⟩ := h.cell (by omega)
    exact ⟨ad, e, fun j hj => by rw [hc j (by omega)]; have := h.len; simp [List.getD, List.getElem?_take_of_lt hj]⟩⟩
theorem strOfNums_append (a b : List Int) : strOfNums (a ++ b) = strOfNums a ++ strOfNums b := by
  unfold strOfNums
  apply ByteArray.ext
  simp

/-! ### One file's calls on a disk that does not fail -/
def Cool (σ : DS) : Prop := σ.fails = []
theorem begin_cool {σ : DS} (h : Cool σ) (ok : Bool) : σ.begin ok = (if ok then 0 else 6, σ) := by
  unfold DS.begin
  have h' : σ.fails = [] := h
  rw [h']
theorem begin_ok {σ : DS} (h : Cool σ) {nm : ByteArray} (hn : nameOk nm = true) : σ.begin (nameOk nm) = (0, σ) := by rw [begin_cool h, hn]; rfl
theorem append_new {σ : DS} {nm : ByteArray} {b : List Int} (h : Cool σ) (hn : nameOk nm = true) (hl : lookA nm.data.toList σ.files = none) (h1 : ¬ 16777216 < b.length) (h2 : ¬ 1000 ≤ σ.files.length) (h3 : ¬ σ.room - used σ.files < b.length) :
    σ.append nm b = (0, { σ with files := insA nm.data.toList (b, 0) σ.files }) := by
  rw [append_none b (begin_ok h hn) hl, if_neg (by omega), if_neg h3]
theorem append_old {σ : DS} {nm : ByteArray} {f : List Int × Nat} {b : List Int} (h : Cool σ) (hn : nameOk nm = true) (hl : lookA nm.data.toList σ.files = some f) (h1 : ¬ 16777216 < f.1.length + b.length) (h3 : ¬ σ.room - used σ.files < b.length) :
    σ.append nm b = (0, { σ with files := setA nm.data.toList (f.1 ++ b, f.2) σ.files }) := by
  rw [append_some b (begin_ok h hn) hl, if_neg h1, if_neg h3]
theorem sync_old {σ : DS} {nm : ByteArray} {f : List Int × Nat} (h : Cool σ) (hn : nameOk nm = true) (hl : lookA nm.data.toList σ.files = some f) : σ.sync nm = (0, { σ with files := setA nm.data.toList (f.1, f.1.length) σ.files }) := by
  unfold DS.sync
  rw [begin_ok h hn]
  simp only
  rw [hl]
  exact if_pos trivial
theorem read_old {σ : DS} {nm : ByteArray} {f : List Int × Nat} (h : Cool σ) (hn : nameOk nm = true) (hl : lookA nm.data.toList σ.files = some f) (hlen : f.1.length ≤ 1000) : σ.read nm 0 1000 = (0, σ, f.1) := by
  unfold DS.read
  rw [begin_ok h hn]
  simp only
  rw [hl]
  simp only
  rw [if_neg (show ¬ ((0 : Int) < 0 ∨ (1000 : Int) < 0 ∨ (f.1.length : Int) < 0) by omega)]
  have : (f.1.drop (Int.toNat 0)).take (Int.toNat 1000) = f.1 := by
    show (f.1.drop 0).take 1000 = f.1
    rw [List.drop_zero, List.take_of_length_le hlen]
  rw [this]
  exact if_pos trivial
theorem crash_ab (keep : Int) (a b : List Int) : crash1 keep (a ++ b, a.length) = (a ++ b.take (min keep.toNat b.length), a.length + min keep.toNat b.length) := by
  unfold crash1 keepN
  simp only [List.length_append]
  have e : min keep.toNat (a.length + b.length - a.length) = min keep.toNat b.length := by omega
  rw [e, List.take_length_add_append]
theorem Dk.sync {w : World} {B g : Nat} {σ : DS} {nm : ByteArray} (h : Dk w B g σ) (hs : nm.size ≤ 100000) (hBw : B ≤ w.heap.size) :
    Calls Try.prog 16 #[.pointer (some ⟨g, 0, none⟩), .string nm] w fun e w' => e = .returned (.int .i64 (σ.sync nm).1) ∧ Dk w' B g (σ.sync nm).2 ∧ Below B w w' := by
  refine (sync_any w B g σ _ nm h hs).mono ?_
  rintro e w' ⟨he, hp⟩
  exact ⟨he, Dk.next (fun k h => h.1) hBw hp, hp.2.toBelow (fun k h => h.1) hBw⟩
theorem Dk.crash {w : World} {B g : Nat} {σ : DS} {keep : Int} (h : Dk w B g σ) (hBw : B ≤ w.heap.size) :
    Calls Try.prog 17 #[.pointer (some ⟨g, 0, none⟩), .int .i64 keep] w fun e w' => e = .returned (.tuple #[]) ∧ Dk w' B g (σ.crash keep) ∧ Below B w w' := by
  refine (crash_any w B g σ _ keep h hBw).mono ?_
  rintro e w' ⟨he, hp⟩
  exact ⟨he, Dk.next (fun k h => h.1) hBw hp, hp.2.toBelow (fun k h => h.1) hBw⟩
def nF : ByteArray := ⟨#[102]⟩
def nG : ByteArray := ⟨#[103]⟩
theorem syn1 (a : List Int) (ha : a.length ≤ 200) : (⟨max 0 10000, [], [], 0⟩ : DS).append ⟨#[102]⟩ a = (0, ⟨10000, [([102], a, 0)], [], 0⟩) :=
  append_new (σ := ⟨10000, [], [], 0⟩) rfl rfl rfl (by omega) (by simp) (by simp only [used]; omega)
theorem syn2 (a : List Int) : (⟨10000, [([102], a, 0)], [], 0⟩ : DS).sync ⟨#[102]⟩ = (0, ⟨10000, [([102], a, a.length)], [], 0⟩) :=
  sync_old (σ := ⟨10000, [([102], a, 0)], [], 0⟩) (f := (a, 0)) rfl rfl rfl
theorem syn3 (a b : List Int) (ha : a.length ≤ 200) (hb : b.length ≤ 200) : (⟨10000, [([102], a, a.length)], [], 0⟩ : DS).append ⟨#[102]⟩ b = (0, ⟨10000, [([102], a ++ b, a.length)], [], 0⟩) :=
  append_old (σ := ⟨10000, [([102], a, a.length)], [], 0⟩) (f := (a, a.length)) rfl rfl rfl (by simp only; omega) (by simp only [used]; omega)
theorem syn4 (a b c : List Int) (ha : a.length ≤ 200) (hb : b.length ≤ 200) (hc : c.length ≤ 200) : (⟨10000, [([102], a ++ b, a.length)], [], 0⟩ : DS).append ⟨#[103]⟩ c = (0, ⟨10000, [([102], a ++ b, a.length), ([103], c, 0)], [], 0⟩) :=
  append_new (σ := ⟨10000, [([102], a ++ b, a.length)], [], 0⟩) rfl rfl rfl (by omega) (by simp) (by simp only [used, List.length_append]; omega)
theorem syn5 (a b c : List Int) (keep : Int) : (⟨10000, [([102], a ++ b, a.length), ([103], c, 0)], [], 0⟩ : DS).crash keep =
    ⟨10000, [([102], a ++ b.take (min keep.toNat b.length), a.length + min keep.toNat b.length), ([103], c.take (min keep.toNat c.length), min keep.toNat c.length)], [], 0⟩ := by
  have h1 := crash_ab keep a b
  have h2 := crash_ab keep [] c
  simp only [List.nil_append, List.length_nil, Nat.zero_add] at h2
  simp only [DS.crash, List.map_cons, List.map_nil, h1, h2]
theorem syn6 (x y : List Int) (m n : Nat) (hx : x.length = m) (hy : y.length = n) : (⟨10000, [([102], x, m), ([103], y, n)], [], 0⟩ : DS).crash 0 = ⟨10000, [([102], x, m), ([103], y, n)], [], 0⟩ := by
  have h : ∀ z : List Int, crash1 0 (z, z.length) = (z, z.length) := fun z => by
    unfold crash1 keepN
    simp
  subst hx hy
  simp only [DS.crash, List.map_cons, List.map_nil, h]
theorem read_f (x y : List Int) (m n : Nat) (hx : x.length ≤ 1000) : (⟨10000, [([102], x, m), ([103], y, n)], [], 0⟩ : DS).read ⟨#[102]⟩ 0 1000 = (0, ⟨10000, [([102], x, m), ([103], y, n)], [], 0⟩, x) :=
  read_old (σ := ⟨10000, [([102], x, m), ([103], y, n)], [], 0⟩) (f := (x, m)) rfl rfl rfl hx
theorem read_g (x y : List Int) (m n : Nat) (hy : y.length ≤ 1000) : (⟨10000, [([102], x, m), ([103], y, n)], [], 0⟩ : DS).read ⟨#[103]⟩ 0 1000 = (0, ⟨10000, [([102], x, m), ([103], y, n)], [], 0⟩, y) :=
  read_old (σ := ⟨10000, [([102], x, m), ([103], y, n)], [], 0⟩) (f := (y, n)) rfl rfl rfl hy
/-- What a read leaves, told for one who goes on. -/
theorem read_next {w : World} {B g : Nat} {σ : DS} {S : Nat → Prop} {nm : ByteArray} {xs : List Int} (h : IsDisk w B g σ S) (hs : nm.size ≤ 100000) (hr : σ.read nm 0 1000 = (0, σ, xs)) (hx : xs.length ≤ 1000) :
    Calls Try.prog 18 #[.pointer (some ⟨g, 0, none⟩), .string nm, .int .i64 0, .int .i64 1000] w fun e w' => ∃ A c, e = .returned (.tuple #[.slice A xs.length c, .int .i64 0]) ∧
      Rd w' .u8 A xs.length c xs ∧ (∀ ad, A = some ad → ad.spot = none ∧ w.heap.size ≤ ad.block ∧ ad.block < w'.heap.size) ∧ IsDisk w' B g σ S ∧ Fr w w' S := by
  refine (read_any w B g σ S nm 0 1000 h hs (by omega) (by omega)).mono ?_
  rintro e w' ⟨A', k, c', he, hown, hd, hf⟩
  rw [hr] at he hown hd
  simp only at he hown hd
  have hk : k = xs.length := by have := hown.1; simpa [nums] using this.symm
  subst hk
  obtain ⟨h1, h2⟩ := own_rd hown (by omega)
  exact ⟨A', c', he, h1, h2, hd, hf⟩
theorem Rd.fr {w W : World} {k : IntKind} {A : Option Addr} {n c lo hi : Nat} {xs : List Int} {S : Nat → Prop} (h : Rd w k A n c xs) (hsp : ∀ ad, A = some ad → ad.spot = none ∧ lo ≤ ad.block ∧ ad.block < hi) (hf : Fr w W S) (hS : ∀ k, lo ≤ k → k < hi → ¬ S k) : Rd W k A n c xs :=
  h.kept hf (fun ad e _ => hS ad.block (hsp ad e).2.1 (hsp ad e).2.2)
end Go.Proofs.Ytgeklapphkgdkaa.Dsk
