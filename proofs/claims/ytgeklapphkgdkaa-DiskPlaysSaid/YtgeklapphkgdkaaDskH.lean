import Derived.Test.YtgeklapphkgdkaaDskG
import Derived.BigRegion
import Derived.RegionTactic
import Derived.ChangeAlike
set_option linter.unusedVariables false
set_option linter.unusedSimpArgs false
namespace Go.Proofs.Ytgeklapphkgdkaa.Dsk
open Go.RowKit Go.Maps

/-! ### Crash -/
def keepN (keep : Int) (f : List Int × Nat) : Nat := f.2 + min keep.toNat (f.1.length - f.2)
def crash1 (keep : Int) (f : List Int × Nat) : List Int × Nat := (f.1.take (keepN keep f), keepN keep f)
def mid (keep : Int) (left : Lit → Bool) (fs : AF) : AF := fs.map fun y => if left (.string y.1) = true then y else (y.1, crash1 keep y.2)
def midU (keep : Int) (left : Lit → Bool) : AF → Int
  | [] => 0
  | y :: r => (if left (.string y.1) = true then 0 else ((crash1 keep y.2).1.length : Int)) + midU keep left r
def DS.crash (σ : DS) (keep : Int) : DS := { σ with files := σ.files.map fun y => (y.1, crash1 keep y.2) }
def strike (left : Lit → Bool) (nm : List UInt8) : Lit → Bool := fun z => left z && !z.sameKey (.string nm)

theorem strike_eq (left : Lit → Bool) (nm x : List UInt8) : strike left nm (.string x) = (left (.string x) && !(x == nm)) := rfl
theorem mid_names (keep : Int) (left : Lit → Bool) (fs : AF) (h : Uniq fs) : Uniq (mid keep left fs) := by
  unfold Uniq mid
  rw [List.pairwise_map]
  refine h.imp (fun {a b} hab => ?_)
  by_cases ha : left (.string a.1) = true <;> by_cases hb : left (.string b.1) = true <;> simp [ha, hb, hab]
theorem mid_look (keep : Int) (left : Lit → Bool) (nm : List UInt8) (hl : left (.string nm) = true) : ∀ fs : AF, lookA nm (mid keep left fs) = lookA nm fs
  | [] => rfl
  | y :: r => by
    have ih := mid_look keep left nm hl r
    unfold mid at ih ⊢
    rw [List.map_cons]
    by_cases h : y.1 = nm
    · rw [if_pos (by rw [h]; exact hl)]; simp [lookA, h]
    · have : ∀ z : List UInt8 × List Int × Nat, z.1 = y.1 → lookA nm (z :: List.map (fun y => if left (.string y.1) = true then y else (y.1, crash1 keep y.2)) r) = lookA nm (y :: r) := by
        intro z hz
        simp only [lookA]
        rw [if_neg (by rw [hz]; exact h), if_neg h, ih]
      split
      · exact this _ rfl
      · exact this _ rfl
theorem mid_step (keep : Int) (left : Lit → Bool) (nm : List UInt8) (f : List Int × Nat) : ∀ fs : AF, Uniq fs → lookA nm fs = some f → left (.string nm) = true → mid keep (strike left nm) fs = setA nm (crash1 keep f) (mid keep left fs) := by
  intro fs hu hf hl
  unfold mid setA
  rw [List.map_map]
  apply List.map_congr_left
  intro y hy
  simp only [Function.comp]
  by_cases h : y.1 = nm
  · have hyf : y.2 = f := by
      clear hl
      induction fs with
      | nil => cases hy
      | cons z r ih =>
        obtain ⟨h1, h2⟩ := List.pairwise_cons.1 hu
        unfold lookA at hf
        rcases List.mem_cons.1 hy with rfl | hy'
        · rw [if_pos h] at hf; injection hf
        · have := h1 y hy'
          rw [if_neg (by rw [← h]; exact this)] at hf
          exact ih h2 hf hy'
    have e1 : strike left nm (.string y.1) = false := by rw [strike_eq, h]; simp
    have e2 : left (.string y.1) = true := by rw [h]; exact hl
    rw [if_neg (by rw [e1]; simp), if_pos e2, if_pos h, ← hyf, h]
  · have hb : (y.1 == nm) = false := by simpa using h
    have e1 : strike left nm (.string y.1) = left (.string y.1) := by rw [strike_eq, hb]; simp
    by_cases h2 : left (.string y.1) = true
    · rw [if_pos (by rw [e1]; exact h2), if_pos h2, if_neg h]
    · rw [if_neg (by rw [e1]; exact h2), if_neg h2, if_neg h]
theorem midU_none (keep : Int) (left : Lit → Bool) (nm : List UInt8) : ∀ fs : AF, (∀ x, x ∈ fs → x.1 ≠ nm) → midU keep (strike left nm) fs = midU keep left fs
  | [], _ => rfl
  | y :: r, h => by
    have h1 := h y (by simp)
    have hb : (y.1 == nm) = false := by simpa using h1
    simp only [midU, strike_eq, hb, Bool.not_false, Bool.and_true, midU_none keep left nm r (fun x hx => h x (by simp [hx]))]
theorem midU_step (keep : Int) (left : Lit → Bool) (nm : List UInt8) (f : List Int × Nat) : ∀ fs : AF, Uniq fs → lookA nm fs = some f → left (.string nm) = true → midU keep (strike left nm) fs = midU keep left fs + (crash1 keep f).1.length
  | [], _, h, _ => by cases h
  | y :: r, hu, h, hl => by
    obtain ⟨h1, h2⟩ := List.pairwise_cons.1 hu
    unfold lookA at h
    split at h
    · rename_i he
      injection h with h
      have hr := midU_none keep left nm r (fun x hx e => h1 x hx (by rw [he, e]))
      simp only [midU, strike_eq, hr, he, hl, h]
      simp; omega
    · rename_i he
      have hb : (y.1 == nm) = false := by simpa using he
      have := midU_step keep left nm f r h2 h hl
      simp only [midU, strike_eq, hb, Bool.not_false, Bool.and_true, this]
      omega
theorem mid_end (keep : Int) (left : Lit → Bool) (hl : ∀ kl, left kl = false) (fs : AF) : mid keep left fs = fs.map fun y => (y.1, crash1 keep y.2) := by
  unfold mid
  apply List.map_congr_left
  intro y _
  rw [hl]; rfl
theorem midU_end (keep : Int) (left : Lit → Bool) (hl : ∀ kl, left kl = false) : ∀ fs : AF, midU keep left fs = used (fs.map fun y => (y.1, crash1 keep y.2))
  | [] => rfl
  | y :: r => by
    simp only [midU, hl, List.map_cons, used, midU_end keep left hl r]; simp
theorem mid_start (keep : Int) (left : Lit → Bool) (fs : AF) (h : ∀ x, x ∈ fs → left (.string x.1) = true) : mid keep left fs = fs := by
  unfold mid
  conv => rhs; rw [← List.map_id fs]
  apply List.map_congr_left
  intro y hy
  rw [h y hy]; rfl
theorem midU_start (keep : Int) (left : Lit → Bool) : ∀ fs : AF, (∀ x, x ∈ fs → left (.string x.1) = true) → midU keep left fs = 0
  | [], _ => rfl
  | y :: r, h => by
    simp only [midU, h y (by simp), midU_start keep left r (fun x hx => h x (by simp [hx]))]; rfl

theorem has_name {L : List FE} {x : FE} (h : x ∈ L) : Maps.has (DataW.map (L.map FE.ent)) (.string x.name) = true := by
  rw [Maps.has_eq]
  exact List.any_eq_true.2 ⟨x.ent, List.mem_map.2 ⟨x, h, rfl⟩, by simp [FE.ent, Lit.sameKey]⟩
theorem grown_set (w : World) (g i : Nat) (v : Value) : w.grownBy (w.setCell ⟨g, i, none⟩ v) (some g) :=
  ⟨rfl, rfl, rfl, by simp [World.setCell], fun k _ hk => setCell_heap _ _ _ _ _ (fun e => hk (by rw [e]))⟩
theorem inv_key {key : Value} {kl : Lit} (h : keyOf Try.prog 9 key = some kl) : ∃ s : ByteArray, key = .string s ∧ kl = .string s.data.toList := by
  cases key <;> simp [keyOf, Try.underlying9, mapKey] at h
  exact ⟨_, rfl, h.2.symm⟩
theorem inv_ptr {v : Value} {y : DataW Nat × List MemPlace} (h : ptrE v = some y) : ∃ c : Option Addr, v = .pointer c := by
  unfold ptrE at h
  split at h
  · exact ⟨_, rfl⟩
  · exact ⟨_, rfl⟩
  · cases h

theorem crash_entry {Lc : List FE} {key : ByteArray} {kl : Lit} {cp : Option Addr} {y : DataW Nat × List MemPlace} (hkey : keyOf Try.prog 9 (.string key) = some kl) (hv : ptrE (.pointer cp) = some y)
    (hat : ∀ zd, (DataW.map (Lc.map FE.ent)).atKey kl zd = y.1) : ∃ x, findF key.data.toList Lc = some x ∧ cp = some ⟨x.blk, 0, none⟩ ∧ kl = .string key.data.toList := by
  obtain ⟨s, hs, rfl⟩ := inv_key hkey
  cases hs
  cases hf : findF key.data.toList Lc with
  | none =>
    exfalso
    have h1 := hat .nil
    have h2 := hat (.held 0)
    have h3 : Maps.has (DataW.map (Lc.map FE.ent)) (.string key.data.toList) = false := by
      rw [Maps.has_eq]
      rw [List.any_eq_false]
      intro p hp
      obtain ⟨z, hz, rfl⟩ := List.mem_map.1 hp
      have := find_none hf z hz
      simp [FE.ent, Lit.sameKey, this]
    rw [Maps.atKey_of_not_has h3] at h1 h2
    rw [← h1] at h2; cases h2
  | some x =>
    have h1 := hat .nil
    rw [find_ent, hf] at h1
    obtain ⟨d, ps⟩ := y
    simp only at h1
    subst h1
    have := ptrE_held hv
    injection this with this
    exact ⟨x, rfl, this, rfl⟩

theorem own_len (A : Option Addr) (n c n' c' : Nat) : (Value.slice A n c).ownBlock = (Value.slice A n' c').ownBlock := by cases A <;> rfl
theorem row_take {w : World} {B e n c m : Nat} {A : Option Addr} {xs : List Value} (h : w.ownsRow B e 1 (.slice A n c) n xs) (hm : m ≤ n) : w.ownsRow B e 1 (.slice A m c) m (xs.take m) := by
  obtain ⟨h1, h2⟩ := h
  refine ⟨by rw [List.length_take]; omega, ?_⟩
  rcases h2 with ⟨e1, e2⟩ | ⟨q, cap, cur, e1, hB, hh, h3, h4, h5, h6⟩
  · subst e2
    have : m = 0 := by omega
    subst this
    exact .inl ⟨e1, rfl⟩
  · cases e1
    refine .inr ⟨q, _, cur, rfl, hB, hh, by omega, h4, h5, ?_⟩
    rw [← h6, List.take_take]
    congr 1; omega
theorem setF_ent {L : List FE} (hn : L.Pairwise fun x y => x.name ≠ y.name) {x x' : FE} (hx : x ∈ L) (h1 : x'.name = x.name) (h2 : x'.blk = x.blk) : (setF x' L).map FE.ent = L.map FE.ent := by
  unfold setF
  rw [List.map_map]
  apply List.map_congr_left
  intro y hy
  simp only [Function.comp]
  split
  · rename_i e
    have : y = x := name_inj hn hy hx (by rw [e, h1])
    subst this
    simp [FE.ent, h1, h2]
  · rfl
/-- What a round leaves. -/
theorem crash_step {w wr w1 W : World} {B g mb : Nat} {keep : Int} {σ : DS} {S : Nat → Prop} {A : Option Addr} {c : Nat} {left : Lit → Bool} {Lc : List FE} {xf : FE} {Ar : Option Addr} {cr kn : Nat}
    (hun : Uniq σ.files) (htop : wr.heap[g]? = some (.cells #[.int .i64 σ.room, .map (some mb), .int .i64 (midU keep left σ.files), .slice A σ.fails.length c, .int .i64 σ.failed] 59 (0, 0)))
    (hdd : Disk1 (wr.setCell ⟨g, 2, none⟩ (.int .i64 (used (mid keep left σ.files)))) B g { σ with files := mid keep left σ.files } S Lc mb A c)
    (hw1 : ∀ k, S k → k < wr.heap.size → w1.heap[k]? = wr.heap[k]?) (hsz : w1.heap.size = wr.heap.size) (hx : xf ∈ Lc) (hrow : xf.row = .slice Ar xf.b.length cr) (hlk : left (.string xf.name) = true)
    (hkn : kn = keepN keep (xf.b, xf.syn))
    (hW : W = (((w1.setCell ⟨xf.blk, 0, none⟩ (.slice Ar kn cr)).setCell ⟨xf.blk, 1, none⟩ (.int .i64 kn)).setCell ⟨g, 2, none⟩ (.int .i64 (midU keep left σ.files + kn)))) :
    W.heap[g]? = some (.cells #[.int .i64 σ.room, .map (some mb), .int .i64 (midU keep (strike left xf.name) σ.files), .slice A σ.fails.length c, .int .i64 σ.failed] 59 (0, 0)) ∧
    Disk1 (W.setCell ⟨g, 2, none⟩ (.int .i64 (used (mid keep (strike left xf.name) σ.files)))) B g { σ with files := mid keep (strike left xf.name) σ.files } S (setF { xf with row := .slice Ar kn cr, b := xf.b.take kn, syn := kn } Lc) mb A c := by
  have hgS := hdd.gS
  have hfile := hdd.file xf hx
  have hgne := hdd.g_ne_blk hx
  have hsy := hfile.2.2.2.2.2.1
  have hkl : kn ≤ xf.b.length := by rw [hkn]; unfold keepN; simp only; omega
  have hlk0 : lookA xf.name (mid keep left σ.files) = some (xf.b, xf.syn) := by
    have := hdd.look xf.name
    simp only at this
    rw [this]
    have hf : findF xf.name Lc = some xf := by
      cases h : findF xf.name Lc with
      | none => exact absurd rfl (find_none h xf hx)
      | some y => have := mem_find h; rw [name_inj hdd.names this.1 hx this.2]
    rw [hf]; rfl
  have hlk1 : lookA xf.name σ.files = some (xf.b, xf.syn) := by rw [← mid_look keep left xf.name hlk]; exact hlk0
  have hcr : crash1 keep (xf.b, xf.syn) = (xf.b.take kn, kn) := by unfold crash1; rw [← hkn]
  have hmid := mid_step keep left xf.name _ σ.files hun hlk1 hlk
  have hmidU := midU_step keep left xf.name _ σ.files hun hlk1 hlk
  rw [hcr] at hmid hmidU
  have hlen : ((xf.b.take kn).length : Int) = kn := by rw [List.length_take]; omega
  simp only [hlen] at hmidU
  have ht1 : w1.heap[g]? = _ := (hw1 g hgS (lt_of_block htop)).trans htop
  have hxw : wr.heap[xf.blk]? = some (.cells #[xf.row, .int .i64 xf.syn] 63 (0, 0)) := by have := hfile.1; rwa [setCell_heap _ _ _ _ _ hgne] at this
  have hx1 := (hw1 _ hfile.2.2.2.1 (lt_of_block hxw)).trans hxw
  have htW : W.heap[g]? = some (.cells #[.int .i64 σ.room, .map (some mb), .int .i64 (midU keep left σ.files + kn), .slice A σ.fails.length c, .int .i64 σ.failed] 59 (0, 0)) := by
    rw [hW, heap_setCell_same _ _ _ _ _ _ (by rw [setCell_heap _ _ _ _ _ hgne.symm, setCell_heap _ _ _ _ _ hgne.symm]; exact ht1)]; rfl
  refine ⟨by rw [htW, hmidU], ?_⟩
  rw [hmid]
  refine hdd.updS (x := xf) (x' := { xf with row := .slice Ar kn cr, b := xf.b.take kn, syn := kn }) hx rfl rfl (fun k hk1 hk2 hk3 hk4 hk5 => ?_) ?_ ?_ ?_ (.inl (by rw [hrow]; exact own_len _ _ _ _ _)) (by simp only; omega) (by simp only [List.length_take]; have := hfile.2.2.2.2.2.2; omega) (fun k hk => hk) (fun q e => ?_)
  · rw [setCell_heap _ _ _ _ _ hk2, hW, setCell_heap _ _ _ _ _ hk2, setCell_heap _ _ _ _ _ hk3, setCell_heap _ _ _ _ _ hk3, setCell_heap _ _ _ _ _ hk2]
    exact hw1 k hk5 (by simpa [World.setCell] using hk1)
  · rw [heap_setCell_same _ _ _ _ _ _ htW]; rfl
  · rw [setCell_heap _ _ _ _ _ hgne, hW, setCell_heap _ _ _ _ _ hgne, heap_setCell_same _ _ _ _ _ _ (heap_setCell_same _ _ _ _ _ _ hx1)]; rfl
  · have hr := row_take (hrow ▸ hfile.2.1) hkl
    have : nums .u8 (xf.b.take kn) = (nums .u8 xf.b).take kn := by simp [nums, List.map_take]
    simp only [this]
    have hl2 : (xf.b.take kn).length = kn := by rw [List.length_take]; omega
    rw [hl2]
    refine row_heap hr (fun k e => ?_)
    have hr0 : xf.row.ownBlock = some k := by rw [hrow, own_len Ar _ _ kn cr]; exact e
    have hkg : k ≠ g := by rintro rfl; exact hdd.row_ne_g hx hr0
    have hkb : k ≠ xf.blk := by rintro rfl; exact hdd.row_ne_blk hx hx hr0
    rw [setCell_heap _ _ _ _ _ hkg, hW, setCell_heap _ _ _ _ _ hkg, setCell_heap _ _ _ _ _ hkb, setCell_heap _ _ _ _ _ hkb, setCell_heap _ _ _ _ _ hkg]
    exact hw1 k (hfile.2.2.2.2.1 k hr0) (by have := (hfile.2.1.lt k hr0).2; simpa [World.setCell] using this)
  · exact hfile.2.2.2.2.1 q (by rw [hrow, own_len Ar _ _ kn cr]; exact e)

/-- The store while 'Crash' goes over it: D, what the head tells of 'used' aside. -/
def CRel (w : World) (B g mb r : Nat) (keep : Int) (σ : DS) (S : Nat → Prop) (L0 : List FE) (A : Option Addr) (c : Nat) (wr : World) : Prop :=
  ∃ left cnt Lc, wr.ranges Try.prog 9 ptrE mb r L0.length (.map (L0.map FE.ent)) left cnt ∧ Lc.map FE.ent = L0.map FE.ent ∧
    wr.heap[g]? = some (.cells #[.int .i64 σ.room, .map (some mb), .int .i64 (midU keep left σ.files), .slice A σ.fails.length c, .int .i64 σ.failed] 59 (0, 0)) ∧
    Disk1 (wr.setCell ⟨g, 2, none⟩ (.int .i64 (used (mid keep left σ.files)))) B g { σ with files := mid keep left σ.files } S Lc mb A c ∧ Fr w wr S ∧ Uniq σ.files
theorem row_cap {w : World} {B e n c : Nat} {A : Option Addr} {xs : List Value} (h : w.ownsRow B e 1 (.slice A n c) n xs) : n ≤ c := by
  rcases h.2 with ⟨e1, e2⟩ | ⟨q, cap, cur, e1, _, _, h3, _⟩
  · omega
  · cases e1; exact h3
theorem midU_bound (keep : Int) (left : Lit → Bool) : ∀ fs : AF, 0 ≤ midU keep left fs ∧ midU keep left fs ≤ used fs
  | [] => ⟨Int.le_refl 0, Int.le_refl 0⟩
  | y :: r => by
    have := midU_bound keep left r
    have h1 : (crash1 keep y.2).1.length ≤ y.2.1.length := by simp only [crash1]; exact List.length_take_le' _ _
    simp only [midU, used]
    split <;> omega

set_option maxHeartbeats 4000000 in
set_option maxRecDepth 100000 in
theorem crash_any (w : World) (B g : Nat) (σ : DS) (S : Nat → Prop) (keep : Int) (h : IsDisk w B g σ S) (hBw : B ≤ w.heap.size) :
    Calls Try.prog 17 #[.pointer (some ⟨g, 0, none⟩), .int .i64 keep] w fun e w' => e = .returned (.tuple #[]) ∧ Post B g S (σ.crash keep) w w' := by
  obtain ⟨L, mb, A, c, hd0⟩ := h
  obtain ⟨S', hS'⟩ : ∃ S' : Nat → Prop, S' = fun k => S k ∧ k < w.heap.size := ⟨_, rfl⟩
  have hd := hd0.mono (S2 := S') (fun k hk hS => by rw [hS']; exact ⟨hS, hk⟩)
  have HS' := Kp.mk hS'
  clear hd0 hS'
  have c1 := cells_top hd.top 1 _ rfl
  have c2 := cells_top hd.top 2 _ rfl
  have f2 := free_top hd.top 2
  have HU := Kp.mk hd.usedBound
  have HD := Kp.mk hd
  clear hd
  go_enter Try.func17, Try.ntmps17
  go_wp2_with (at_range; refine wpList_range_own _ rfl _ 57 rfl 9 61 law9 Try.underlying57 ptrE mb L.length (.map (L.map FE.ent)) rfl (map_heap HD.out.own (setCell_heap _ _ _ _ _ HD.out.g_ne_map)) ?_; intro w0 hrg0 hg0 hs0)
  go_frame
  have hsz : (w.setCell ⟨g, 2, none⟩ (.int .i64 0)).heap.size = w.heap.size := by simp [World.setCell]
  rw [hsz] at hrg0
  simp only [hsz]
  have HR : Kp (CRel w B g mb w.heap.size keep σ S' L A c w0) := ⟨by
    have hall : ∀ x, x ∈ σ.files → Maps.has (DataW.map (L.map FE.ent)) (.string x.1) = true := by
      intro x hx
      rw [← HD.out.abs] at hx
      obtain ⟨z, hz, rfl⟩ := List.mem_map.1 hx
      exact has_name hz
    have hgl : g < w.heap.size := lt_of_block HD.out.top
    have hw0 : ∀ k, k < w.heap.size → w0.heap[k]? = (w.setCell ⟨g, 2, none⟩ (.int .i64 0)).heap[k]? := fun k hk => hg0.block k (by rw [hsz]; exact hk) (by simp)
    have htop : w0.heap[g]? = some (.cells #[.int .i64 σ.room, .map (some mb), .int .i64 0, .slice A σ.fails.length c, .int .i64 σ.failed] 59 (0, 0)) := by
      rw [hw0 g hgl, heap_setCell_same _ _ _ _ _ _ HD.out.top]; rfl
    refine ⟨Maps.has (DataW.map (L.map FE.ent)), _, L, hrg0, rfl, by rw [midU_start keep _ _ hall]; exact htop, ?_, ?_, HD.out.uniq⟩
    · rw [mid_start keep _ _ hall]
      refine HD.out.heap (fun k hS hk => ?_)
      by_cases e : k = g
      · subst e
        rw [heap_setCell_same _ _ _ _ _ _ htop, HD.out.top]; rfl
      · rw [setCell_heap _ _ _ _ _ e, hw0 k hk, setCell_heap _ _ _ _ _ e]
    · exact ((Fr.refl w S').setCell (a := ⟨g, 2, none⟩) (.inl HD.out.gS) _).trans (Fr.of_below (S := S') ⟨hg0.os, hg0.tape, hg0.output, hg0.size, fun k hk => hg0.block k hk (by simp)⟩) (fun k hk => .inl hk)⟩
  clear hrg0 hg0 hs0 hsz c1 c2 f2
  go_loopw [15] (fun _ wr => Kp (CRel w B g mb w.heap.size keep σ S' L A c wr)) (fun _ wr => wr.rangeLeft mb w.heap.size)
  case atStart => exact HR
  case round =>
    clear HR
    obtain ⟨⟨left, cnt, Lc, hrg, hent, htop, hdd, hfr, hun⟩⟩ := hrel
    have Hrg := Kp.mk hrg
    have Hent := Kp.mk hent
    have Htop := Kp.mk htop
    have Hdd := Kp.mk hdd
    have Hfr := Kp.mk hfr
    have Hun := Kp.mk hun
    clear hrg hent htop hdd hfr hun
    go_wp2_with (at_next; refine wpList_next_ranges _ rfl _ rfl 9 law9 ptrE Value.string Value.pointer (fun key kl h => by obtain ⟨s, h1, _⟩ := inv_key h; exact ⟨s, h1⟩) (fun v y h => inv_ptr h) mb w.heap.size L.length (.map (L.map FE.ent)) left cnt rfl Hrg.out ?_ ?_; rotate_left; (intro key0 cp kl y w1 cnt1 hkey hlk hv hat hrg1 hlt hgr hsz hen; obtain ⟨xf, hxf, rfl, rfl⟩ := crash_entry hkey hv (Hent.out ▸ hat); have Hxf := Kp.mk hxf; have Hlk := Kp.mk hlk; have Hrg1 := Kp.mk hrg1; have Hlt := Kp.mk hlt; have Hgr := Kp.mk hgr; have Hsz := Kp.mk hsz; clear hkey hv hat hxf hlk hrg1 hlt hgr hsz); rotate_left; (intro hc0 hl0; have Hl0 := Kp.mk hl0; clear hl0))
    · go_end0
      have h1 := mid_end keep left Hl0.out σ.files
      have h2 := midU_end keep left Hl0.out σ.files
      have hdd := Hdd.out
      have htop := Htop.out
      rw [h1] at hdd
      rw [h2] at htop
      refine ⟨rfl, IsDisk.mono ⟨Lc, mb, A, c, hdd.heap (fun k _ _ => ?_)⟩ (fun k _ hk => by rw [HS'.out] at hk; exact .inl hk.1), Hfr.out.mono (fun k _ hk => by rw [HS'.out] at hk; exact hk.1)⟩
      by_cases e : k = g
      · subst e
        rw [heap_setCell_same _ _ _ _ _ _ htop, htop]; rfl
      · rw [setCell_heap _ _ _ _ _ e]
    · have hm := mem_find Hxf.out
      have hrne := Hrg.out.ne
      have hfile := Hdd.out.file xf hm.1
      have hgne := Hdd.out.g_ne_blk hm.1
      have hxw : wr.heap[xf.blk]? = some (.cells #[xf.row, .int .i64 xf.syn] 63 (0, 0)) := by have := hfile.1; rwa [setCell_heap _ _ _ _ _ hgne] at this
      have hne1 : xf.blk ≠ w.heap.size := by
        intro e
        obtain ⟨es, clock, since, seen, c0, _, _, _, _, hr, _⟩ := Hrg.out
        rw [← e, hxw] at hr; cases hr
      have hx1 := (Hgr.out.block xf.blk (lt_of_block hxw) (fun e => hne1 (by injection e))).trans hxw
      have hgr : g ≠ w.heap.size := by have := lt_of_block HD.out.top; omega
      have ht1 := (Hgr.out.block g (lt_of_block Htop.out) (fun e => hgr (by injection e))).trans Htop.out
      obtain ⟨Ar, cr, hrow⟩ := row_slice hfile.2.1
      have b0 := cells_top hx1 0 _ rfl
      rw [hrow] at b0
      have b1 := cells_top hx1 1 _ rfl
      have fb0 := free_top hx1 0
      have fb1 := free_top hx1 1
      have c2 := cells_top ht1 2 _ rfl
      have f2 := free_top ht1 2
      have hu := midU_bound keep left σ.files
      have hub := HU.out
      have hsy := hfile.2.2.2.2.2.1
      have hle := hfile.2.2.2.2.2.2
      have Hx1 := Kp.mk hx1
      have Ht1 := Kp.mk ht1
      have Hrow := Kp.mk hrow
      have Hfile := Kp.mk hfile
      have Hm := Kp.mk hm
      clear hx1 ht1 hrow hfile hm hxw
      go_wp2
      go_quiet (fail)
      have hcap := row_cap (Hrow.out ▸ Hfile.out.2.1)
      have hu0 := hu.1
      have hu1 := hu.2
      have hub1 := hub.2
      clear hu hub
      have hxn : key0.data.toList = xf.name := Hm.out.2.symm
      have Hxn := Kp.mk hxn
      have Hne1 := Kp.mk hne1
      have Hgr1 := Kp.mk hgr
      have fin : Kp (∀ (kn n : Nat) (i2 i3 : Int), kn = keepN keep (xf.b, xf.syn) → i2 = kn → i3 = midU keep left σ.files + kn →
          CRel w B g mb w.heap.size keep σ S' L A c (((((w1.drewN n).setCell ⟨xf.blk, 0, none⟩ (.slice Ar kn cr)).setCell ⟨xf.blk, 1, none⟩ (.int .i64 i2)).setCell ⟨g, 2, none⟩ (.int .i64 i3))).drew ∧
          (((((w1.drewN n).setCell ⟨xf.blk, 0, none⟩ (.slice Ar kn cr)).setCell ⟨xf.blk, 1, none⟩ (.int .i64 i2)).setCell ⟨g, 2, none⟩ (.int .i64 i3))).drew.rangeLeft mb w.heap.size < wr.rangeLeft mb w.heap.size) := ⟨by
        intro kn n i2 i3 hkn hi2 hi3
        subst hi2 hi3
        obtain ⟨W, hW⟩ : ∃ W, W = (((w1.drewN n).setCell ⟨xf.blk, 0, none⟩ (.slice Ar kn cr)).setCell ⟨xf.blk, 1, none⟩ (.int .i64 kn)).setCell ⟨g, 2, none⟩ (.int .i64 (midU keep left σ.files + kn)) := ⟨_, rfl⟩
        rw [← hW]
        suffices hsu : CRel w B g mb w.heap.size keep σ S' L A c W ∧ W.rangeLeft mb w.heap.size < wr.rangeLeft mb w.heap.size by
          obtain ⟨⟨l, n1, Lc1, q1, q2, q3, q4, q5, q6⟩, q7⟩ := hsu
          exact ⟨⟨l, n1, Lc1, q1, q2, q3, q4.heap (fun _ _ _ => rfl), q5.drew, q6⟩, q7⟩
        have hst := crash_step (w := w) (w1 := w1.drewN n) Hun.out Htop.out Hdd.out (fun k hS hk => Hgr.out.block k hk (fun e => by rw [HS'.out] at hS; injection e with e; omega)) Hsz.out Hm.out.1 Hrow.out (by rw [← Hxn.out]; exact Hlk.out) hkn hW
        have hmb : mb ≠ xf.blk := fun e => Hdd.out.map_ne_blk Hm.out.1 e.symm
        have hrg : W.ranges Try.prog 9 ptrE mb w.heap.size L.length (.map (L.map FE.ent)) (strike left xf.name) cnt1 := by
          rw [hW]
          have h0 : (w1.drewN n).ranges Try.prog 9 ptrE mb w.heap.size L.length (.map (L.map FE.ent)) (strike left xf.name) cnt1 := by
            have := Hrg1.out
            rw [Hxn.out] at this
            exact this
          refine ((h0.kept (grown_set _ _ _ _) ?_ ?_).kept (grown_set _ _ _ _) ?_ ?_).kept (grown_set _ _ _ _) ?_ ?_
          · intro e; exact hmb (by injection e)
          · intro e; exact Hne1.out (by injection e with e; exact e.symm)
          · intro e; exact hmb (by injection e)
          · intro e; exact Hne1.out (by injection e with e; exact e.symm)
          · intro e; exact Hdd.out.g_ne_map (by injection e)
          · intro e; exact Hgr1.out (by injection e with e; exact e.symm)
        refine ⟨⟨strike left xf.name, cnt1, _, hrg, ?_, hst.1, hst.2, ?_, Hun.out⟩, ?_⟩
        · rw [setF_ent Hdd.out.names Hm.out.1 (by rfl) (by rfl)]; exact Hent.out
        · rw [hW]
          have hbS : S' xf.blk := Hfile.out.2.2.2.1
          have h0 : Fr w w1 S' := Hfr.out.grown Hgr.out (fun k e => by injection e with e; exact .inr (by omega))
          exact (((h0.drewN n).setCell (a := ⟨xf.blk, 0, none⟩) (.inl hbS) _).setCell (a := ⟨xf.blk, 1, none⟩) (.inl hbS) _).setCell (a := ⟨g, 2, none⟩) (.inl HD.out.gS) _
        · rw [hrg.left_eq, Hrg.out.left_eq]; exact Hlt.out⟩
      clear hxn hne1 hgr
      by_cases hk0 : 0 < keep
      · obtain ⟨kp, rfl⟩ := Int.eq_ofNat_of_zero_le (Int.le_of_lt hk0)
        by_cases hk1 : (kp : Int) < (xf.b.length : Int) - xf.syn
        · have Hkn : Kp (xf.syn + kp = keepN kp (xf.b, xf.syn)) := ⟨by unfold keepN; simp only [Int.toNat_natCast]; omega⟩
          go_wp2
          go_region
          all_goals go_wp2
          all_goals go_region
          all_goals go_wp2
          all_goals
            go_roundw
            case rel => exact ⟨(fin.out _ _ _ _ (by have := Hkn.out; omega) (by omega) (by omega)).1⟩
            case measure => exact (fin.out _ _ _ _ (by have := Hkn.out; omega) (by omega) (by omega)).2
        · have Hkn : Kp (xf.b.length = keepN kp (xf.b, xf.syn)) := ⟨by unfold keepN; simp only [Int.toNat_natCast]; omega⟩
          go_wp2
          go_region
          all_goals go_wp2
          all_goals go_region
          all_goals go_wp2
          all_goals
            go_roundw
            case rel => exact ⟨(fin.out _ _ _ _ (by have := Hkn.out; omega) (by omega) (by omega)).1⟩
            case measure => exact (fin.out _ _ _ _ (by have := Hkn.out; omega) (by omega) (by omega)).2
      · have Hkn : Kp (xf.syn = keepN keep (xf.b, xf.syn)) := ⟨by unfold keepN; simp only; omega⟩
        by_cases hk1 : 0 < (xf.b.length : Int) - xf.syn
        · go_wp2
          go_region
          all_goals go_wp2
          all_goals go_region
          all_goals go_wp2
          all_goals
            go_roundw
            case rel => exact ⟨(fin.out _ _ _ _ (by have := Hkn.out; omega) (by omega) (by omega)).1⟩
            case measure => exact (fin.out _ _ _ _ (by have := Hkn.out; omega) (by omega) (by omega)).2
        · go_wp2
          go_region
          all_goals go_wp2
          all_goals go_region
          all_goals go_wp2
          all_goals
            go_roundw
            case rel => exact ⟨(fin.out _ _ _ _ (by have := Hkn.out; omega) (by omega) (by omega)).1⟩
            case measure => exact (fin.out _ _ _ _ (by have := Hkn.out; omega) (by omega) (by omega)).2
end Go.Proofs.Ytgeklapphkgdkaa.Dsk
