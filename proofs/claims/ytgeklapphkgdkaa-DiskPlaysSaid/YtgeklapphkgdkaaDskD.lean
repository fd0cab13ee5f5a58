import Derived.Test.YtgeklapphkgdkaaDskC
set_option linter.unusedVariables false
set_option linter.unusedSimpArgs false
namespace Go.Proofs.Ytgeklapphkgdkaa.Dsk
open Go.RowKit Go.Maps

/-! ### Files by name: as the store has them, and as they are told -/
def findF (nm : List UInt8) (L : List FE) : Option FE := L.find? fun x => x.name == nm
def setF (x : FE) (L : List FE) : List FE := L.map fun y => if y.name = x.name then x else y
def insF (x : FE) : List FE → List FE
  | [] => [x]
  | y :: r => if bytesBefore x.name y.name then x :: y :: r else y :: insF x r
def delF (nm : List UInt8) (L : List FE) : List FE := L.filter fun x => !(x.name == nm)
def lookA (nm : List UInt8) : AF → Option (List Int × Nat)
  | [] => none
  | y :: r => if y.1 = nm then some y.2 else lookA nm r
def setA (nm : List UInt8) (v : List Int × Nat) (fs : AF) : AF := fs.map fun y => if y.1 = nm then (nm, v) else y
def insA (nm : List UInt8) (v : List Int × Nat) : AF → AF
  | [] => [(nm, v)]
  | y :: r => if bytesBefore nm y.1 then (nm, v) :: y :: r else y :: insA nm v r
def delA (nm : List UInt8) (fs : AF) : AF := fs.filter fun y => !(y.1 == nm)
def Uniq (fs : AF) : Prop := fs.Pairwise fun x y => x.1 ≠ y.1

theorem look_abs (nm : List UInt8) : ∀ L : List FE, lookA nm (L.map FE.abs) = (findF nm L).map fun x => (x.b, x.syn)
  | [] => rfl
  | y :: r => by
    simp only [List.map_cons, lookA, findF, List.find?_cons, FE.abs]
    by_cases h : y.name = nm
    · rw [if_pos h]; simp [h]
    · rw [if_neg h]
      have : (y.name == nm) = false := by simpa using h
      rw [this]
      exact look_abs nm r
theorem set_abs (x : FE) (L : List FE) : (setF x L).map FE.abs = setA x.name (x.b, x.syn) (L.map FE.abs) := by
  unfold setF setA
  rw [List.map_map, List.map_map]
  apply List.map_congr_left
  intro y _
  simp only [Function.comp]
  by_cases e : y.name = x.name
  · rw [if_pos e, if_pos (show y.abs.1 = x.name from e)]; rfl
  · rw [if_neg e, if_neg (show ¬ y.abs.1 = x.name from e)]
theorem ins_abs (x : FE) : ∀ L : List FE, (insF x L).map FE.abs = insA x.name (x.b, x.syn) (L.map FE.abs)
  | [] => rfl
  | y :: r => by
    simp only [insF, List.map_cons, insA, FE.abs]
    split
    · rfl
    · rw [List.map_cons, ins_abs x r]; rfl
theorem del_abs (nm : List UInt8) (L : List FE) : (delF nm L).map FE.abs = delA nm (L.map FE.abs) := by
  unfold delF delA
  rw [List.filter_map]; rfl
theorem ins_ent (x : FE) : ∀ L : List FE, (insF x L).map FE.ent = DataW.insert x.ent (L.map FE.ent)
  | [] => rfl
  | y :: r => by
    have ih := ins_ent x r
    by_cases e : bytesBefore x.name y.name = true
    · simp [insF, DataW.insert, FE.ent, Lit.before, e]
    · simp only [insF, if_neg e, List.map_cons, ih, DataW.insert]
      rw [if_neg (show ¬ (x.ent.1.before y.ent.1 = true) from e)]
theorem find_ent (nm : List UInt8) : ∀ L : List FE, (DataW.map (L.map FE.ent)).atKey (.string nm) .nil = match findF nm L with | some x => .held x.blk | none => .nil
  | [] => rfl
  | y :: r => by
    have ih := find_ent nm r
    simp only [DataW.atKey, findF, List.map_cons, List.find?_cons, FE.ent, Lit.sameKey] at ih ⊢
    cases h : (y.name == nm)
    · exact ih
    · rfl
theorem del_ent (nm : List UInt8) (L : List FE) : (DataW.map (L.map FE.ent)).del (.string nm) = .map ((delF nm L).map FE.ent) := by
  simp only [DataW.del, delF]
  rw [List.filter_map]; rfl
theorem mem_find {nm : List UInt8} {L : List FE} {x : FE} (h : findF nm L = some x) : x ∈ L ∧ x.name = nm := by
  have h1 := List.mem_of_find?_eq_some h
  have h2 := List.find?_some h
  exact ⟨h1, by simpa using h2⟩
theorem find_none {nm : List UInt8} {L : List FE} (h : findF nm L = none) : ∀ x, x ∈ L → x.name ≠ nm := by
  intro x hx e
  have := List.find?_eq_none.1 h x hx
  simp [e] at this
theorem put_ent {nm : List UInt8} {L : List FE} (x : FE) (h : findF nm L = none) (hx : x.name = nm) : (DataW.map (L.map FE.ent)).put (.string nm) (.held x.blk) = .map ((insF x L).map FE.ent) := by
  have h1 : (L.map FE.ent).filter (fun p => !p.1.sameKey (.string nm)) = L.map FE.ent := by
    rw [List.filter_eq_self]
    intro p hp
    obtain ⟨y, hy, rfl⟩ := List.mem_map.1 hp
    have := find_none h y hy
    simp [FE.ent, Lit.sameKey, this]
  rw [ins_ent]
  simp only [DataW.put, h1]
  rw [← hx]; rfl
theorem mem_insF {x y : FE} : ∀ {L : List FE}, y ∈ insF x L ↔ y = x ∨ y ∈ L
  | [] => by simp [insF]
  | z :: r => by
    unfold insF
    split
    · simp
    · rw [List.mem_cons, mem_insF (L := r), List.mem_cons]; constructor <;> (rintro (h | h | h) <;> simp [h])
theorem pair_insF {R : FE → FE → Prop} (hs : ∀ a b, R a b → R b a) {x : FE} : ∀ {L : List FE}, L.Pairwise R → (∀ y, y ∈ L → R x y) → (insF x L).Pairwise R
  | [], _, _ => by simp [insF]
  | z :: r, h, hx => by
    obtain ⟨h1, h2⟩ := List.pairwise_cons.1 h
    unfold insF
    split
    · exact List.pairwise_cons.2 ⟨hx, h⟩
    · refine List.pairwise_cons.2 ⟨fun y hy => ?_, pair_insF hs h2 (fun y hy => hx y (by simp [hy]))⟩
      rcases mem_insF.1 hy with rfl | hy
      · exact hs _ _ (hx z (by simp))
      · exact h1 y hy
theorem length_insF (x : FE) : ∀ L : List FE, (insF x L).length = L.length + 1
  | [] => rfl
  | y :: r => by
    unfold insF
    split
    · rfl
    · simp [length_insF x r]

theorem used_nonneg : ∀ fs : AF, 0 ≤ used fs
  | [] => Int.le_refl 0
  | x :: r => by have := used_nonneg r; simp only [used]; omega
theorem used_le {N : Nat} : ∀ fs : AF, (∀ x, x ∈ fs → x.2.1.length ≤ N) → used fs ≤ (fs.length : Int) * N
  | [], _ => by simp [used]
  | x :: r, h => by
    have := used_le r (fun y hy => h y (by simp [hy]))
    have h1 := h x (by simp)
    have e : ((r.length + 1 : Nat) : Int) * (N : Int) = (r.length : Int) * N + N := by rw [Int.natCast_add, Int.add_mul]; simp
    simp only [used, List.length_cons]
    omega
theorem used_ins (nm : List UInt8) (v : List Int × Nat) : ∀ fs : AF, used (insA nm v fs) = used fs + v.1.length
  | [] => by simp [insA, used]
  | y :: r => by
    unfold insA
    split
    · simp only [used]; omega
    · simp only [used, used_ins nm v r]; omega
theorem used_set_none (nm : List UInt8) (v : List Int × Nat) : ∀ fs : AF, lookA nm fs = none → setA nm v fs = fs
  | [], _ => rfl
  | y :: r, h => by
    unfold lookA at h
    split at h
    · cases h
    · rename_i hn
      have := used_set_none nm v r h
      unfold setA at this ⊢
      rw [List.map_cons, if_neg hn, this]
theorem look_none_iff (nm : List UInt8) : ∀ fs : AF, lookA nm fs = none ↔ ∀ x, x ∈ fs → x.1 ≠ nm
  | [] => by simp [lookA]
  | y :: r => by
    unfold lookA
    split
    · rename_i h; simp [h]
    · rename_i h; rw [look_none_iff nm r]; simp [h]
theorem used_set (nm : List UInt8) (v old : List Int × Nat) : ∀ fs : AF, Uniq fs → lookA nm fs = some old → used (setA nm v fs) = used fs - old.1.length + v.1.length
  | [], _, h => by cases h
  | y :: r, hu, h => by
    obtain ⟨h1, h2⟩ := List.pairwise_cons.1 hu
    unfold lookA at h
    split at h
    · rename_i he
      cases h
      have hr : setA nm v r = r := used_set_none nm v r ((look_none_iff nm r).2 (fun x hx => by have := h1 x hx; rw [he] at this; exact fun e => this e.symm))
      unfold setA at hr ⊢
      rw [List.map_cons, if_pos he, hr]
      simp only [used]; omega
    · rename_i he
      have := used_set nm v old r h2 h
      unfold setA at this ⊢
      rw [List.map_cons, if_neg he]
      simp only [used, this]; omega
theorem used_del_none (nm : List UInt8) : ∀ fs : AF, lookA nm fs = none → delA nm fs = fs := by
  intro fs h
  unfold delA
  rw [List.filter_eq_self]
  intro x hx
  have := (look_none_iff nm fs).1 h x hx
  simp [this]
theorem used_del (nm : List UInt8) (old : List Int × Nat) : ∀ fs : AF, Uniq fs → lookA nm fs = some old → used (delA nm fs) = used fs - old.1.length
  | [], _, h => by cases h
  | y :: r, hu, h => by
    obtain ⟨h1, h2⟩ := List.pairwise_cons.1 hu
    unfold lookA at h
    split at h
    · rename_i he
      cases h
      have hr : delA nm r = r := used_del_none nm r ((look_none_iff nm r).2 (fun x hx => by have := h1 x hx; rw [he] at this; exact fun e => this e.symm))
      unfold delA at hr ⊢
      rw [List.filter_cons_of_neg (by simp [he]), hr]
      simp only [used]; omega
    · rename_i he
      have := used_del nm old r h2 h
      unfold delA at this ⊢
      rw [List.filter_cons_of_pos (by simp [he])]
      simp only [used, this]; omega

section
variable {w W : World} {B g : Nat} {σ : DS} {S : Nat → Prop} {L : List FE} {mb : Nat} {A : Option Addr} {c : Nat}
theorem law9 : Keyed Try.prog 9 := string_keyed Try.underlying9
theorem Disk1.names (h : Disk1 w B g σ S L mb A c) : L.Pairwise fun x y => x.name ≠ y.name := by
  obtain ⟨es, e, hp, _⟩ := h.own.entries law9
  injection e with e
  subst e
  rw [List.pairwise_map] at hp
  exact hp.imp (fun {a b} hne he => hne (by simp [FE.ent, he]))
theorem Disk1.uniq (h : Disk1 w B g σ S L mb A c) : Uniq σ.files := by
  rw [← h.abs]
  exact (List.pairwise_map).2 (h.names.imp (fun {a b} hne => hne))
theorem Disk1.look (h : Disk1 w B g σ S L mb A c) (nm : List UInt8) : lookA nm σ.files = (findF nm L).map fun x => (x.b, x.syn) := by rw [← h.abs]; exact look_abs nm L
theorem Disk1.usedBound (h : Disk1 w B g σ S L mb A c) : 0 ≤ used σ.files ∧ used σ.files ≤ 16777216000 := by
  refine ⟨used_nonneg _, ?_⟩
  have h1 : used σ.files ≤ (σ.files.length : Int) * (16777216 : Nat) := used_le _ (fun x hx => by
    rw [← h.abs] at hx
    obtain ⟨y, hy, rfl⟩ := List.mem_map.1 hx
    exact (h.file y hy).2.2.2.2.2.2)
  have h2 : σ.files.length ≤ 1000 := by rw [← h.abs, List.length_map]; exact h.most
  have h3 : (σ.files.length : Int) * (16777216 : Nat) ≤ 1000 * 16777216 := Int.mul_le_mul_of_nonneg_right (by omega) (by omega)
  omega
theorem pair_mem {R : FE → FE → Prop} (hs : ∀ a b, R a b → R b a) : ∀ {L : List FE}, L.Pairwise R → ∀ x y, x ∈ L → y ∈ L → x ≠ y → R x y
  | [], _, _, _, hx, _, _ => by cases hx
  | z :: r, h, x, y, hx, hy, hne => by
    obtain ⟨h1, h2⟩ := List.pairwise_cons.1 h
    rcases List.mem_cons.1 hx with rfl | hx'
    · rcases List.mem_cons.1 hy with rfl | hy'
      · exact absurd rfl hne
      · exact h1 y hy'
    · rcases List.mem_cons.1 hy with rfl | hy'
      · exact hs _ _ (h1 x hx')
      · exact pair_mem hs h2 x y hx' hy' hne
theorem name_inj {L : List FE} (h : L.Pairwise fun x y => x.name ≠ y.name) {x y : FE} (hx : x ∈ L) (hy : y ∈ L) (e : x.name = y.name) : x = y := by
  by_cases hne : x = y
  · exact hne
  · exact absurd e (pair_mem (fun _ _ h e => h e.symm) h x y hx hy hne)
theorem Disk1.g_ne_map (h : Disk1 w B g σ S L mb A c) : mb ≠ g := by
  rintro rfl
  obtain ⟨es, clock, hb, _⟩ := h.own
  rw [h.top] at hb; cases hb
theorem Disk1.g_ne_blk (h : Disk1 w B g σ S L mb A c) {x : FE} (hx : x ∈ L) : x.blk ≠ g := by
  intro e
  have h1 := (h.file x hx).1
  rw [e, h.top] at h1; simp at h1
theorem Disk1.map_ne_blk (h : Disk1 w B g σ S L mb A c) {x : FE} (hx : x ∈ L) : x.blk ≠ mb := by
  intro e
  obtain ⟨es, clock, hb, _⟩ := h.own
  have h1 := (h.file x hx).1
  rw [e, hb] at h1; simp at h1
theorem row_ty {w : World} {B e n k t : Nat} {v : Value} {xs : List Value} {cs : Array Value} {fr : Nat × Nat} (h : w.ownsRow B e 1 v n xs) (hk : v.ownBlock = some k) (hh : w.heap[k]? = some (.cells cs t fr)) : t = e := by
  rcases h.2 with ⟨e1, _⟩ | ⟨q, cap, cur, e1, _, h1, _⟩
  · rw [e1] at hk; cases hk
  · rw [e1] at hk; cases hk; rw [hh] at h1; simp at h1; exact h1.2.1
theorem row_cells {w : World} {B e n k : Nat} {v : Value} {xs : List Value} (h : w.ownsRow B e 1 v n xs) (hk : v.ownBlock = some k) : ∃ cur, w.heap[k]? = some (.cells cur e (0, 0)) := by
  rcases h.2 with ⟨e1, _⟩ | ⟨q, cap, cur, e1, _, h1, _⟩
  · rw [e1] at hk; cases hk
  · rw [e1] at hk; cases hk; exact ⟨cur, h1⟩
theorem Disk1.row_ne_g (h : Disk1 w B g σ S L mb A c) {x : FE} (hx : x ∈ L) : x.row.ownBlock ≠ some g := by
  intro e
  have := row_ty (h.file x hx).2.1 e h.top
  simp at this
theorem Disk1.row_ne_map (h : Disk1 w B g σ S L mb A c) {x : FE} (hx : x ∈ L) : x.row.ownBlock ≠ some mb := by
  intro e
  obtain ⟨cur, hc⟩ := row_cells (h.file x hx).2.1 e
  obtain ⟨es, clock, hb, _⟩ := h.own
  rw [hb] at hc; cases hc
theorem Disk1.row_ne_blk (h : Disk1 w B g σ S L mb A c) {x y : FE} (hx : x ∈ L) (hy : y ∈ L) : x.row.ownBlock ≠ some y.blk := by
  intro e
  have := row_ty (h.file x hx).2.1 e (h.file y hy).1
  simp at this
/-- A file that has turned, and the head. -/
theorem Disk1.updS (h : Disk1 w B g σ S L mb A c) {S2 : Nat → Prop} {x x' : FE} (hx : x ∈ L) (hn : x'.name = x.name) (hb : x'.blk = x.blk)
    (hW : ∀ k, k < w.heap.size → k ≠ g → k ≠ x.blk → x.row.ownBlock ≠ some k → S k → W.heap[k]? = w.heap[k]?)
    (ht : W.heap[g]? = some (.cells #[.int .i64 σ.room, .map (some mb), .int .i64 (used (setA x.name (x'.b, x'.syn) σ.files)), .slice A σ.fails.length c, .int .i64 σ.failed] 59 (0, 0)))
    (hf : W.heap[x.blk]? = some (.cells #[x'.row, .int .i64 x'.syn] 63 (0, 0)))
    (hr : W.ownsRow B 5 1 x'.row x'.b.length (nums .u8 x'.b)) (hl : x'.row.ownBlock = x.row.ownBlock ∨ ∃ q, x'.row.ownBlock = some q ∧ w.heap.size ≤ q) (hs : x'.syn ≤ x'.b.length) (hm : x'.b.length ≤ 16777216)
    (hS2 : ∀ k, S k → S2 k) (hl2 : ∀ q, x'.row.ownBlock = some q → S2 q) :
    Disk1 W B g { σ with files := setA x.name (x'.b, x'.syn) σ.files } S2 (setF x' L) mb A c := by
  have hnames := h.names
  have hent : (setF x' L).map FE.ent = L.map FE.ent := by
    unfold setF
    rw [List.map_map]
    apply List.map_congr_left
    intro y hy
    simp only [Function.comp]
    split
    · rename_i e
      have : y = x := name_inj hnames hy hx (by rw [e, hn])
      subst this
      simp [FE.ent, hn, hb]
    · rfl
  have hother : ∀ y, y ∈ L → y ≠ x → FileAt W B S2 y := by
    intro y hy hne
    have hap := pair_mem (R := fun x y => x.blk ≠ y.blk ∧ (x.row.ownBlock = none ∨ x.row.ownBlock ≠ y.row.ownBlock)) (fun a b hab => ⟨fun e => hab.1 e.symm, by
      rcases hab.2 with h0 | h0
      · by_cases hb0 : b.row.ownBlock = none
        · exact .inl hb0
        · exact .inr (by rw [h0]; exact hb0)
      · exact .inr (fun e => h0 e.symm)⟩) h.apart y x hy hx hne
    obtain ⟨h1, h2, h3, h4, h5, h6⟩ := h.file y hy
    refine ⟨(hW y.blk (lt_of_block h1) (h.g_ne_blk hy) hap.1 (h.row_ne_blk hx hy) h4).trans h1, row_heap h2 (fun k e => hW k (h2.lt k e).2 ?_ ?_ ?_ (h5 k e)), h3, hS2 _ h4, fun k e => hS2 _ (h5 k e), h6⟩
    · rintro rfl; exact h.row_ne_g hy e
    · rintro rfl; exact h.row_ne_blk hy hx e
    · intro e1
      rcases hap.2 with h0 | h0
      · rw [h0] at e; cases e
      · exact h0 (e.trans e1.symm)
  have hself : FileAt W B S2 x' := by
    obtain ⟨h1, h2, h3, h4, h5, h6⟩ := h.file x hx
    exact ⟨by rw [hb]; exact hf, hr, by rw [hb]; exact h3, hS2 _ (by rw [hb]; exact h4), hl2, hs, hm⟩
  refine ⟨by rw [set_abs, hn, h.abs], ht, ?_, ?_, ?_, ?_, h.gB, hS2 _ h.gS, h.mB, hS2 _ h.mS, by simp [setF]; exact h.most⟩
  · rw [hent]
    have : (setF x' L).length = L.length := by simp [setF]
    rw [this]
    exact map_heap h.own (hW mb h.own.lt h.g_ne_map (fun e => h.map_ne_blk hx e.symm) (h.row_ne_map hx) h.mS)
  · intro y hy
    obtain ⟨z, hz, rfl⟩ := List.mem_map.1 hy
    split
    · exact hself
    · rename_i hne
      exact hother z hz (fun e => hne (by rw [e, hn]))
  · unfold setF
    rw [List.pairwise_map]
    refine (hnames.and h.apart).imp_of_mem (fun {a b} ha hb' hab => ?_)
    obtain ⟨hab1, hab2, hab3⟩ := hab
    have key : ∀ z, z ∈ L → z ≠ x → (x.blk ≠ z.blk) ∧ (x'.row.ownBlock = none ∨ x'.row.ownBlock ≠ z.row.ownBlock) ∧ (z.row.ownBlock = none ∨ z.row.ownBlock ≠ x'.row.ownBlock) := by
      intro z hz hne
      have hap := pair_mem (R := fun x y => x.blk ≠ y.blk ∧ (x.row.ownBlock = none ∨ x.row.ownBlock ≠ y.row.ownBlock) ∧ (y.row.ownBlock = none ∨ y.row.ownBlock ≠ x.row.ownBlock)) (fun a b hab => ⟨fun e => hab.1 e.symm, hab.2.2, hab.2.1⟩)
        (h.apart.imp (fun {a b} hab => ⟨hab.1, hab.2, by
          rcases hab.2 with h0 | h0
          · by_cases hb0 : b.row.ownBlock = none
            · exact .inl hb0
            · exact .inr (by rw [h0]; exact hb0)
          · exact .inr (fun e => h0 e.symm)⟩)) x z hx hz (fun e => hne e.symm)
      refine ⟨hap.1, ?_⟩
      rcases hl with hl | ⟨q, hq, hle⟩
      · rw [hl]; exact hap.2
      · have hzq : z.row.ownBlock ≠ some q := fun e => by have := ((h.file z hz).2.1.lt q e).2; omega
        exact ⟨.inr (by rw [hq]; exact fun e => hzq e.symm), .inr (by rw [hq]; exact hzq)⟩
    split
    · rename_i ea
      have ea' : a = x := name_inj hnames ha hx (by rw [ea, hn])
      subst ea'
      rw [if_neg (by rw [hn]; exact fun e => hab1 e.symm)]
      have k := key b hb' (fun e => by rw [e] at hab1; exact hab1 rfl)
      exact ⟨by rw [hb]; exact k.1, k.2.1⟩
    · split
      · rename_i eb
        have eb' : b = x := name_inj hnames hb' hx (by rw [eb, hn])
        subst eb'
        have k := key a ha (fun e => by rw [e] at hab1; exact hab1 rfl)
        exact ⟨by rw [hb]; exact fun e => k.1 e.symm, k.2.2⟩
      · exact ⟨hab2, hab3⟩
  · obtain ⟨f1, f2, f3⟩ := h.fails
    refine ⟨f1, f2, ?_⟩
    rcases f3 with f3 | ⟨fb, off, cs, fr, e, hS, hB, hh, hc⟩
    · exact .inl f3
    · refine .inr ⟨fb, off, cs, fr, e, hS2 _ hS, hB, (hW fb (lt_of_block hh) ?_ ?_ ?_ hS).trans hh, hc⟩
      · rintro rfl; rw [h.top] at hh; simp at hh
      · rintro rfl; rw [(h.file x hx).1] at hh; simp at hh
      · intro e1; have := row_ty (h.file x hx).2.1 e1 hh; simp at this
theorem Disk1.upd (h : Disk1 w B g σ S L mb A c) {x x' : FE} (hx : x ∈ L) (hn : x'.name = x.name) (hb : x'.blk = x.blk)
    (hW : ∀ k, k < w.heap.size → k ≠ g → k ≠ x.blk → x.row.ownBlock ≠ some k → W.heap[k]? = w.heap[k]?)
    (ht : W.heap[g]? = some (.cells #[.int .i64 σ.room, .map (some mb), .int .i64 (used (setA x.name (x'.b, x'.syn) σ.files)), .slice A σ.fails.length c, .int .i64 σ.failed] 59 (0, 0)))
    (hf : W.heap[x.blk]? = some (.cells #[x'.row, .int .i64 x'.syn] 63 (0, 0)))
    (hr : W.ownsRow B 5 1 x'.row x'.b.length (nums .u8 x'.b)) (hl : x'.row.ownBlock = x.row.ownBlock ∨ ∃ q, x'.row.ownBlock = some q ∧ w.heap.size ≤ q) (hs : x'.syn ≤ x'.b.length) (hm : x'.b.length ≤ 16777216) :
    Disk1 W B g { σ with files := setA x.name (x'.b, x'.syn) σ.files } (fun k => S k ∨ w.heap.size ≤ k) (setF x' L) mb A c :=
  h.updS hx hn hb (fun k a b c d _ => hW k a b c d) ht hf hr hl hs hm (fun k hk => .inl hk) (fun q e => by
    rcases hl with hl | ⟨q', hq, hle⟩
    · exact .inl ((h.file x hx).2.2.2.2.1 q (by rw [← hl]; exact e))
    · rw [hq] at e; cases e; exact .inr hle)
end
end Go.Proofs.Ytgeklapphkgdkaa.Dsk
