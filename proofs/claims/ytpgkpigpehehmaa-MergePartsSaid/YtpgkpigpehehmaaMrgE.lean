import Derived.Test.YtpgkpigpehehmaaMrgC
import Derived.Shelf.SlSortCmp.InsertionK
set_option linter.unusedVariables false
set_option linter.unusedSimpArgs false
namespace Go.Proofs.Ytpgkpigpehehmaa.Bas
open Go.RowKit Go.Maps Go.Sort Go.Shelf

/-! ### The library's insertion sort, laid here -/
def insRen : Go.Shelf.Ren := ⟨fun | 20 => 32 | n => n, fun | 24 => 40 | 22 => 25 | 25 => 46 | 0 => 0 | 3 => 3 | 4 => 4 | n => n, fun | n => n⟩
theorem insLaid : Go.Proofs.SlLaysF0.n20 Try.prog insRen := {
  mixed := by kernel_rfl
  f20 := ⟨Try.f32.name, by decide, Try.func32.trans (congrArg some (by kernel_rfl))⟩
  t0 := Try.underlying0
  a0 := Try.isAgg0
  z0 := Try.sizeOf0
  v0 := Try.zeroValue0
  t3 := Try.underlying3
  a3 := Try.isAgg3
  z3 := Try.sizeOf3
  v3 := Try.zeroValue3
  t4 := Try.underlying4
  a4 := Try.isAgg4
  z4 := Try.sizeOf4
  v4 := Try.zeroValue4
  t22 := Try.underlying25
  a22 := Try.isAgg25
  z22 := Try.sizeOf25
  v22 := Try.zeroValue25
  t25 := Try.underlying46
  a25 := Try.isAgg46
  z25 := Try.sizeOf46
  v25 := Try.zeroValue46 }
theorem enC_default (w0 : World) : EnC w0 #[.slice none 0 0, .int .u64 0, .int .i64 0, .slice none 0 0] enD := ⟨none, 0, 0, none, 0, 0, rfl, Rd.nil0 _ _, (fun x h => by cases h), Rd.nil0 _ _, (fun x h => by cases h)⟩
/-- An element as it is sorted: its four cells, and the entry that they tell in a world ahead of the sort. -/
def Cell4 (w0 : World) : Type := { p : Array Value × En // EnC w0 p.1 p.2 }
instance (w0 : World) : Inhabited (Cell4 w0) := ⟨⟨(_, enD), enC_default w0⟩⟩
def encC {w0 : World} (x : Cell4 w0) : List Value := x.1.1.toList
def cfC {w0 : World} (x y : Cell4 w0) : Int := keyCmp x.1.2.k y.1.2.k
theorem encC_len {w0 : World} (x : Cell4 w0) : (encC x).length = 4 := by
  have h := x.2
  obtain ⟨A, n, c, A', n', c', hv, _⟩ := h
  rw [encC, hv]
  rfl
theorem encC_one {w0 : World} (x : Cell4 w0) : ∀ v ∈ encC x, v.oneCell' = true := by
  have h := x.2
  obtain ⟨A, n, c, A', n', c', hv, _⟩ := h
  intro v hm
  rw [encC, hv] at hm
  simp at hm
  rcases hm with rfl | rfl | rfl | rfl <;> rfl
theorem sortWorld_below {w0 w : World} {blk off m : Nat} {dk : Array (Cell4 w0)} {os : Array Obj} (hb : Below w0.heap.size w0 w) (hblk : w0.heap.size ≤ blk) : Below w0.heap.size w0 (sortWorldK (encC (w0 := w0)) 4 w blk off m dk os) := by
  refine hb.trans ⟨rfl, rfl, rfl, ?_, fun k hk => ?_⟩
  · exact size_sortWorldK_c _ _ _ _ _ _ _ _
  · have h1 : k < w.heap.size := Nat.lt_of_lt_of_le hk hb.size
    show ((putRowK (encC (w0 := w0)) 4 (Sort.ahead w m) blk off dk).heap ++ os)[k]? = _
    rw [Array.getElem?_append_left (by rw [size_putRowK]; exact h1)]
    show (Array.modify _ _ _)[k]? = _
    rw [Array.getElem?_modify, if_neg (by omega)]
    rfl
theorem cmp_lays {w0 w : World} {blk off size : Nat} (hb : Below w0.heap.size w0 w) (hblk : w0.heap.size ≤ blk) : CmpLays Try.prog 19 #[] (encC (w0 := w0)) 4 cfC blk off size w := by
  intro m os dk _ x y
  have hB := sortWorld_below (m := m) (dk := dk) (os := os) (off := off) hb hblk
  have ex : (encC x).toArray = x.1.1 := by simp [encC]
  have ey : (encC y).toArray = y.1.1 := by simp [encC]
  rw [ex, ey]
  exact closure_any (x.2.below hB) (y.2.below hB)
theorem ins_lib {w0 : World} (w : World) (blk off cap a b : Nat) (d : Array (Cell4 w0)) (hcmp : CmpLays Try.prog 19 #[] (encC (w0 := w0)) 4 cfC blk off d.size w) (hH : HoldsK (encC (w0 := w0)) 4 w blk off d) (hblk : blk < w.heap.size) (hab : a ≤ b) (hb : b ≤ d.size) (hsz : d.size < 4611686018427387904) :
    Calls Try.prog 32 #[.slice (some ⟨blk, off, none⟩) d.size cap, .int .i64 a, .int .i64 b, .func (.func 19) #[] #[]] w fun e w' =>
      e = .returned (.tuple #[]) ∧ ∃ n os, w' = sortWorldK (encC (w0 := w0)) 4 w blk off n (Sort.insertionSort (ltOf cfC) d a b) os :=
  AnyQ.insertionSortCmpFunc insLaid 4 Try.isAgg40 Try.sizeOf40 (encC (w0 := w0)) encC_len encC_one cfC 19 #[] blk off cap a b d w (enters_of Try.func19 (by kernel_rfl) rfl) hcmp hH hblk hab hb hsz
end Go.Proofs.Ytpgkpigpehehmaa.Bas
