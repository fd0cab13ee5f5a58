import Derived.Test.YtgeklapphkgdkaaDskD
import Derived.Maps.AppendAt
set_option linter.unusedVariables false
set_option linter.unusedSimpArgs false
namespace Go.Proofs.Ytgeklapphkgdkaa.Dsk
open Go.RowKit Go.Maps

theorem zeroP (w : World) : (zeroValue 61).run Try.prog w = .ok (.pointer none) w := by kernel_rfl
theorem Try.infoU8 : (Try.prog.info? 5).map (fun i => (i.zero, i.size, i.bytes)) = some (some (.int .u8 0), 1, 1) := by kernel_rfl

/-- What the store's pointer of a name is. -/
def ptrOf (nm : List UInt8) (L : List FE) : Option Nat := (findF nm L).map (·.blk)
def pv : Option Nat → Value
  | none => .pointer none
  | some b => .pointer (some ⟨b, 0, none⟩)
theorem Disk1.lookup {w : World} {B g : Nat} {σ : DS} {S : Nat → Prop} {L : List FE} {mb : Nat} {A : Option Addr} {c : Nat} (h : Disk1 w B g σ S L mb A c) (nm : ByteArray) (hnm : nm.size ≤ 100000) :
    (Instr.lookup 57 (.map (some mb)) (.string nm) false).run Try.prog w = .ok (pv (ptrOf nm.data.toList L)) w := by
  obtain ⟨v, ps, hr, hv⟩ := h.own.lookup (t := 57) (e := 61) law9 Try.underlying57 (zeroP _) (zd := .nil) (zp := []) rfl (WideMaps.keyOf_string_mk Try.underlying9 (by unfold maxLen; omega) : keyOf Try.prog 9 (.string nm) = some (.string nm.data.toList))
  rw [find_ent] at hv
  rw [hr]
  unfold ptrOf
  cases hf : findF nm.data.toList L with
  | none => rw [hf] at hv; rw [ptrE_nil hv]; rfl
  | some x => rw [hf] at hv; rw [ptrE_held hv]; rfl

def OpenPost (B g : Nat) (σ : DS) (S : Nat → Prop) (ok : Bool) (nm : List UInt8) (w : World) (e : Ending) (w' : World) : Prop :=
  Fr w w' (fun k => k = g) ∧ ∃ L mb A c, Disk1 w' B g (σ.begin ok).2 S L mb A c ∧
    (((σ.begin ok).1 ≠ 0 ∧ e = .returned (.tuple #[.pointer none, .int .i64 (σ.begin ok).1])) ∨
     ((σ.begin ok).1 = 0 ∧ ((findF nm L = none ∧ e = .returned (.tuple #[.pointer none, .int .i64 8])) ∨ ∃ x, findF nm L = some x ∧ e = .returned (.tuple #[.pointer (some ⟨x.blk, 0, none⟩), .int .i64 0]))))

set_option maxHeartbeats 2000000 in
set_option maxRecDepth 100000 in
theorem open_any (w : World) (B g : Nat) (σ : DS) (S : Nat → Prop) (q : Nat) (ns : List ByteArray) (nm : ByteArray) (h : IsDisk w B g σ S) (hn : NamesAt w ⟨q, 0, none⟩ ns) (hg : q ≠ g) (h0 : 0 < ns.length) (hnm : ns.getD 0 ByteArray.empty = nm) (hl : ns.length ≤ 100) (hs : ∀ s, s ∈ ns → s.size ≤ 100000) :
    Calls Try.prog 30 #[.pointer (some ⟨g, 0, none⟩), .slice (some ⟨q, 0, none⟩) ns.length ns.length] w (OpenPost B g σ S (ns.all nameOk) nm.data.toList w) := by
  have hc0 := hn 0 h0
  rw [hnm] at hc0
  have hsz := hs _ (mem_getD ns 0 h0)
  rw [hnm] at hsz
  have Hb := Kp.mk (begin_any w B g σ S ⟨q, 0, none⟩ ns h hn hg hl hs)
  obtain ⟨ok, hok⟩ : ∃ ok, ns.all nameOk = ok := ⟨_, rfl⟩
  rw [hok] at Hb ⊢
  obtain ⟨e0, σ1, hbe⟩ : ∃ e0 σ1, σ.begin ok = (e0, σ1) := ⟨_, _, rfl⟩
  have HB := Kp.mk hbe
  rw [hbe] at Hb
  have H0 := Kp.mk h0
  have Hq := Kp.mk hg
  clear h hn hnm hl hs hbe hok h0
  go_enter Try.func30, Try.ntmps30
  go_wp2_with fail
  refine Hb.out.mono ?_
  rintro e w1 ⟨rfl, ⟨L, mb, A, c, hd⟩, hf⟩
  by_cases he : e0 = 0
  · subst he
    have c1 := cells_top hd.top 1 _ rfl
    have cn : w1.cell? ⟨q, 0, none⟩ = some (.string nm) := hf.cell hc0 hg
    have hlk := fun n => (hd.heap (W := w1.drewN n) (fun _ _ _ => rfl)).lookup nm hsz
    have hlen : 0 < ns.length := H0.out
    have HD := Kp.mk hd
    have HF := Kp.mk hf
    clear hd hf
    cases hp : findF nm.data.toList L with
    | none =>
      have e1 : ptrOf nm.data.toList L = none := by rw [ptrOf, hp]; rfl
      rw [e1] at hlk
      simp only [pv] at hlk
      have HP := Kp.mk hp
      clear hp e1
      go_wp2_with fail
      go_quiet (fail)
      go_wp2
      go_ret2
      exact ⟨HF.out.drewN _, L, mb, A, c, by rw [HB.out]; exact HD.out.heap (fun _ _ _ => rfl), .inr ⟨by rw [HB.out], .inl ⟨HP.out, rfl⟩⟩⟩
    | some x =>
      have e1 : ptrOf nm.data.toList L = some x.blk := by rw [ptrOf, hp]; rfl
      rw [e1] at hlk
      simp only [pv] at hlk
      have HP := Kp.mk hp
      clear hp e1
      go_wp2_with fail
      go_quiet (fail)
      go_wp2
      go_ret2
      exact ⟨HF.out.drewN _, L, mb, A, c, by rw [HB.out]; exact HD.out.heap (fun _ _ _ => rfl), .inr ⟨by rw [HB.out], .inr ⟨x, HP.out, rfl⟩⟩⟩
  · have hne : (e0 != 0) = true := by simpa using he
    have HD := Kp.mk hd
    have HF := Kp.mk hf
    have HE := Kp.mk he
    clear hd hf he
    go_wp2
    go_ret2
    exact ⟨HF.out, L, mb, A, c, by rw [HB.out]; exact HD.out, .inl ⟨by rw [HB.out]; exact HE.out, by rw [HB.out]; rfl⟩⟩
end Go.Proofs.Ytgeklapphkgdkaa.Dsk
