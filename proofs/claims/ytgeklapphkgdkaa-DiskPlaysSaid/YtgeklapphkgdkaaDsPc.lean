import Derived.Test.YtgeklapphkgdkaaDsPb
import Derived.Deep.RegionHeld3
set_option linter.unusedVariables false
set_option linter.unusedSimpArgs false
namespace Go.Proofs.Ytgeklapphkgdkaa.Dsk
open Go.RowKit Go.Maps Go.Sort Go.Shelf

/-! ### Do: a call by both (printed by wip/gen/dsdo.py) -/
/-- What is told of an Act. -/
structure ActP (w : World) (S S' : Nat → Prop) (at_ n : Int) (P Q : ByteArray) (Ab : Option Addr) (nb cb : Nat) (b : List Int) (Al : Option Addr) (nl cl : Nat) (l : List Int) : Prop where
  P : P.size ≤ 100000
  Q : Q.size ≤ 100000
  b : Rd w .u8 Ab nb cb b
  bn : nb ≤ 1000
  bS : ∀ ad, Ab = some ad → 0 < nb → ¬ S ad.block ∧ ¬ S' ad.block
  l : Rd w .i64 Al nl cl l
  ln : nl ≤ 1000
  lS : ∀ ad, Al = some ad → 0 < nl → ¬ S ad.block ∧ ¬ S' ad.block
  a1 : -9223372036854775808 ≤ at_ ∧ at_ ≤ 9223372036854775807
  n1 : -9223372036854775808 ≤ n ∧ n ≤ 9223372036854775807
theorem post2_refl {w W : World} {B B' g g' : Nat} {σ : DS} {S S' : Nat → Prop} (h : Two w B B' g g' σ S S') (hb : Below w.heap.size w W) : Post2 B B' g g' S S' w W :=
  ⟨σ, S, S', h.below hb, fun k hk => .inl hk, Fr.of_below hb⟩
set_option maxHeartbeats 4000000 in
set_option maxRecDepth 100000 in
theorem do1 {w : World} {B B' g g' : Nat} {σ : DS} {S S' : Nat → Prop} (h : Two w B B' g g' σ S S') {at_ n : Int} {P Q : ByteArray} {Ab : Option Addr} {nb cb : Nat} {b : List Int} {Al : Option Addr} {nl cl : Nat} {l : List Int} (ha : ActP w S S' at_ n P Q Ab nb cb b Al nl cl l) :
    Calls Try.prog 26 #[.pointer (some ⟨g, 0, none⟩), .pointer (some ⟨g', 0, none⟩), .agg #[.int .i64 1, .int .i64 at_, .int .i64 n, .string P, .string Q, .slice Ab nb cb, .slice Al nl cl]] w fun e w' => e = .returned (.bool true) ∧ Post2 B B' g g' S S' w w' := by
  have HA := Kp.mk ha
  have HbA : Kp (¬ S w.heap.size ∧ ¬ S' w.heap.size) := ⟨fun e => Nat.lt_irrefl _ (h.2.2.1 _ e).2, fun e => Nat.lt_irrefl _ (h.2.2.2.1 _ e)⟩
  have HAl := Kp.mk (alloc_below w (.cells #[.int .i64 1, .int .i64 at_, .int .i64 n, .string P, .string Q, .slice Ab nb cb, .slice Al nl cl] 54))
  have HT := Kp.mk (h.below HAl.out)
  have HH := Kp.mk h
  have hgt := heap_alloc_new w (.cells #[.int .i64 1, .int .i64 at_, .int .i64 n, .string P, .string Q, .slice Ab nb cb, .slice Al nl cl] 54)
  have HRb := Kp.mk (ha.b.below HAl.out)
  have HRl := Kp.mk (ha.l.below HAl.out)
  obtain ⟨wa, hwa⟩ : ∃ W, W = w.alloc (.cells #[.int .i64 1, .int .i64 at_, .int .i64 n, .string P, .string Q, .slice Ab nb cb, .slice Al nl cl] 54) := ⟨_, rfl⟩
  obtain ⟨bA, hbA⟩ : ∃ x, x = w.heap.size := ⟨_, rfl⟩
  rw [← hwa] at HAl hgt HT HRb HRl
  rw [← hbA] at hgt HbA
  have y0 := cells_top hgt 0 _ rfl
  have y1 := cells_top hgt 1 _ rfl
  have y2 := cells_top hgt 2 _ rfl
  have y3 := cells_top hgt 3 _ rfl
  have y4 := cells_top hgt 4 _ rfl
  have y5 := cells_top hgt 5 _ rfl
  have y6 := cells_top hgt 6 _ rfl
  have HWA := Kp.mk hwa
  have HBA := Kp.mk hbA
  have hnb := ha.bn
  have hnl := ha.ln
  clear h ha hgt hwa hbA
  go_enter Try.func26, Try.ntmps26
  go_upto_region 1 with fail
  rw [← HWA.out, ← HBA.out]
  have HTd := Kp.mk (HT.out.below (Below.refl _ _).drew)
  have HC := Kp.mk (sync_any wa.drew B g σ S P HTd.out.1 HA.out.P)
  have HR := Kp.mk (fun (W : World) (h1 : IsR W B' g' σ S') => r_sync h1 P HA.out.P)
  go_wp2_with fail
  go_region_held3 (fun w' => w'.cell? ⟨bA, 3, none⟩ = some (.string P)) (go_keep) (first
    | (go_at_call 16; refine HC.out.mono ?_; rintro e w1 ⟨rfl, hp⟩; have y31 := hp.2.cell y3 HbA.out.1; have HP := Kp.mk hp; have HHf := Kp.mk (half_of HTd.out hp (sync_room σ P)); clear hp)
    | (go_at_call 12; refine (num_any _ _).mono ?_; rintro e wn ⟨rfl, hwn⟩; subst hwn)
    | (go_at_call 36; refine (HR.out _ HHf.out.2.1).mono ?_; rintro e w2 ⟨rfl, hp2⟩; have y32 := hp2.2.cell y31 HbA.out.2; have HP2 := Kp.mk hp2; clear hp2))
  all_goals
    go_wp2_with fail
    go_ret
    exact ⟨by simp, ((post2_of HTd.out HP.out (sync_room σ P) (Below.refl _ _) HP2.out).after (Below.refl _ _).drew).after HAl.out⟩
set_option maxHeartbeats 4000000 in
set_option maxRecDepth 100000 in
theorem do2 {w : World} {B B' g g' : Nat} {σ : DS} {S S' : Nat → Prop} (h : Two w B B' g g' σ S S') {at_ n : Int} {P Q : ByteArray} {Ab : Option Addr} {nb cb : Nat} {b : List Int} {Al : Option Addr} {nl cl : Nat} {l : List Int} (ha : ActP w S S' at_ n P Q Ab nb cb b Al nl cl l) :
    Calls Try.prog 26 #[.pointer (some ⟨g, 0, none⟩), .pointer (some ⟨g', 0, none⟩), .agg #[.int .i64 2, .int .i64 at_, .int .i64 n, .string P, .string Q, .slice Ab nb cb, .slice Al nl cl]] w fun e w' => e = .returned (.bool true) ∧ Post2 B B' g g' S S' w w' := by
  have HA := Kp.mk ha
  have HbA : Kp (¬ S w.heap.size ∧ ¬ S' w.heap.size) := ⟨fun e => Nat.lt_irrefl _ (h.2.2.1 _ e).2, fun e => Nat.lt_irrefl _ (h.2.2.2.1 _ e)⟩
  have HAl := Kp.mk (alloc_below w (.cells #[.int .i64 2, .int .i64 at_, .int .i64 n, .string P, .string Q, .slice Ab nb cb, .slice Al nl cl] 54))
  have HT := Kp.mk (h.below HAl.out)
  have HH := Kp.mk h
  have hgt := heap_alloc_new w (.cells #[.int .i64 2, .int .i64 at_, .int .i64 n, .string P, .string Q, .slice Ab nb cb, .slice Al nl cl] 54)
  have HRb := Kp.mk (ha.b.below HAl.out)
  have HRl := Kp.mk (ha.l.below HAl.out)
  obtain ⟨wa, hwa⟩ : ∃ W, W = w.alloc (.cells #[.int .i64 2, .int .i64 at_, .int .i64 n, .string P, .string Q, .slice Ab nb cb, .slice Al nl cl] 54) := ⟨_, rfl⟩
  obtain ⟨bA, hbA⟩ : ∃ x, x = w.heap.size := ⟨_, rfl⟩
  rw [← hwa] at HAl hgt HT HRb HRl
  rw [← hbA] at hgt HbA
  have y0 := cells_top hgt 0 _ rfl
  have y1 := cells_top hgt 1 _ rfl
  have y2 := cells_top hgt 2 _ rfl
  have y3 := cells_top hgt 3 _ rfl
  have y4 := cells_top hgt 4 _ rfl
  have y5 := cells_top hgt 5 _ rfl
  have y6 := cells_top hgt 6 _ rfl
  have HWA := Kp.mk hwa
  have HBA := Kp.mk hbA
  have hnb := ha.bn
  have hnl := ha.ln
  clear h ha hgt hwa hbA
  go_enter Try.func26, Try.ntmps26
  go_upto_region 1 with fail
  rw [← HWA.out, ← HBA.out]
  have HTd := Kp.mk (HT.out.below (Below.refl _ _).drew)
  have HC := Kp.mk (rename_any wa.drew B g σ S P Q HTd.out.1 HA.out.P HA.out.Q)
  have HR := Kp.mk (fun (W : World) (h1 : IsR W B' g' σ S') => r_rename h1 P Q HA.out.P HA.out.Q)
  go_wp2_with fail
  go_region_held3 (fun w' => w'.cell? ⟨bA, 3, none⟩ = some (.string P) ∧ w'.cell? ⟨bA, 4, none⟩ = some (.string Q)) (go_keep) (first
    | (go_at_call 20; refine HC.out.mono ?_; rintro e w1 ⟨rfl, hp⟩; have y31 := hp.2.cell y3 HbA.out.1; have y41 := hp.2.cell y4 HbA.out.1; have HP := Kp.mk hp; have HHf := Kp.mk (half_of HTd.out hp (rename_room σ P Q)); clear hp)
    | (go_at_call 12; refine (num_any _ _).mono ?_; rintro e wn ⟨rfl, hwn⟩; subst hwn)
    | (go_at_call 37; refine (HR.out _ HHf.out.2.1).mono ?_; rintro e w2 ⟨rfl, hp2⟩; have y32 := hp2.2.cell y31 HbA.out.2; have y42 := hp2.2.cell y41 HbA.out.2; have HP2 := Kp.mk hp2; clear hp2))
  all_goals
    go_wp2_with fail
    go_ret
    exact ⟨by simp, ((post2_of HTd.out HP.out (rename_room σ P Q) (Below.refl _ _) HP2.out).after (Below.refl _ _).drew).after HAl.out⟩
set_option maxHeartbeats 4000000 in
set_option maxRecDepth 100000 in
theorem do3 {w : World} {B B' g g' : Nat} {σ : DS} {S S' : Nat → Prop} (h : Two w B B' g g' σ S S') {at_ n : Int} {P Q : ByteArray} {Ab : Option Addr} {nb cb : Nat} {b : List Int} {Al : Option Addr} {nl cl : Nat} {l : List Int} (ha : ActP w S S' at_ n P Q Ab nb cb b Al nl cl l) :
    Calls Try.prog 26 #[.pointer (some ⟨g, 0, none⟩), .pointer (some ⟨g', 0, none⟩), .agg #[.int .i64 3, .int .i64 at_, .int .i64 n, .string P, .string Q, .slice Ab nb cb, .slice Al nl cl]] w fun e w' => e = .returned (.bool true) ∧ Post2 B B' g g' S S' w w' := by
  have HA := Kp.mk ha
  have HbA : Kp (¬ S w.heap.size ∧ ¬ S' w.heap.size) := ⟨fun e => Nat.lt_irrefl _ (h.2.2.1 _ e).2, fun e => Nat.lt_irrefl _ (h.2.2.2.1 _ e)⟩
  have HAl := Kp.mk (alloc_below w (.cells #[.int .i64 3, .int .i64 at_, .int .i64 n, .string P, .string Q, .slice Ab nb cb, .slice Al nl cl] 54))
  have HT := Kp.mk (h.below HAl.out)
  have HH := Kp.mk h
  have hgt := heap_alloc_new w (.cells #[.int .i64 3, .int .i64 at_, .int .i64 n, .string P, .string Q, .slice Ab nb cb, .slice Al nl cl] 54)
  have HRb := Kp.mk (ha.b.below HAl.out)
  have HRl := Kp.mk (ha.l.below HAl.out)
  obtain ⟨wa, hwa⟩ : ∃ W, W = w.alloc (.cells #[.int .i64 3, .int .i64 at_, .int .i64 n, .string P, .string Q, .slice Ab nb cb, .slice Al nl cl] 54) := ⟨_, rfl⟩
  obtain ⟨bA, hbA⟩ : ∃ x, x = w.heap.size := ⟨_, rfl⟩
  rw [← hwa] at HAl hgt HT HRb HRl
  rw [← hbA] at hgt HbA
  have y0 := cells_top hgt 0 _ rfl
  have y1 := cells_top hgt 1 _ rfl
  have y2 := cells_top hgt 2 _ rfl
  have y3 := cells_top hgt 3 _ rfl
  have y4 := cells_top hgt 4 _ rfl
  have y5 := cells_top hgt 5 _ rfl
  have y6 := cells_top hgt 6 _ rfl
  have HWA := Kp.mk hwa
  have HBA := Kp.mk hbA
  have hnb := ha.bn
  have hnl := ha.ln
  clear h ha hgt hwa hbA
  go_enter Try.func26, Try.ntmps26
  go_upto_region 1 with fail
  rw [← HWA.out, ← HBA.out]
  have HTd := Kp.mk (HT.out.below (Below.refl _ _).drew)
  have HC := Kp.mk (remove_any wa.drew B g σ S P HTd.out.1 HA.out.P)
  have HR := Kp.mk (fun (W : World) (h1 : IsR W B' g' σ S') => r_remove h1 P HA.out.P)
  go_wp2_with fail
  go_region_held3 (fun w' => w'.cell? ⟨bA, 3, none⟩ = some (.string P)) (go_keep) (first
    | (go_at_call 38; refine HC.out.mono ?_; rintro e w1 ⟨rfl, hp⟩; have y31 := hp.2.cell y3 HbA.out.1; have HP := Kp.mk hp; have HHf := Kp.mk (half_of HTd.out hp (remove_room σ P)); clear hp)
    | (go_at_call 12; refine (num_any _ _).mono ?_; rintro e wn ⟨rfl, hwn⟩; subst hwn)
    | (go_at_call 39; refine (HR.out _ HHf.out.2.1).mono ?_; rintro e w2 ⟨rfl, hp2⟩; have y32 := hp2.2.cell y31 HbA.out.2; have HP2 := Kp.mk hp2; clear hp2))
  all_goals
    go_wp2_with fail
    go_ret
    exact ⟨by simp, ((post2_of HTd.out HP.out (remove_room σ P) (Below.refl _ _) HP2.out).after (Below.refl _ _).drew).after HAl.out⟩
set_option maxHeartbeats 4000000 in
set_option maxRecDepth 100000 in
theorem do5 {w : World} {B B' g g' : Nat} {σ : DS} {S S' : Nat → Prop} (h : Two w B B' g g' σ S S') {at_ n : Int} {P Q : ByteArray} {Ab : Option Addr} {nb cb : Nat} {b : List Int} {Al : Option Addr} {nl cl : Nat} {l : List Int} (ha : ActP w S S' at_ n P Q Ab nb cb b Al nl cl l) :
    Calls Try.prog 26 #[.pointer (some ⟨g, 0, none⟩), .pointer (some ⟨g', 0, none⟩), .agg #[.int .i64 5, .int .i64 at_, .int .i64 n, .string P, .string Q, .slice Ab nb cb, .slice Al nl cl]] w fun e w' => e = .returned (.bool true) ∧ Post2 B B' g g' S S' w w' := by
  have HA := Kp.mk ha
  have HbA : Kp (¬ S w.heap.size ∧ ¬ S' w.heap.size) := ⟨fun e => Nat.lt_irrefl _ (h.2.2.1 _ e).2, fun e => Nat.lt_irrefl _ (h.2.2.2.1 _ e)⟩
  have HAl := Kp.mk (alloc_below w (.cells #[.int .i64 5, .int .i64 at_, .int .i64 n, .string P, .string Q, .slice Ab nb cb, .slice Al nl cl] 54))
  have HT := Kp.mk (h.below HAl.out)
  have HH := Kp.mk h
  have hgt := heap_alloc_new w (.cells #[.int .i64 5, .int .i64 at_, .int .i64 n, .string P, .string Q, .slice Ab nb cb, .slice Al nl cl] 54)
  have HRb := Kp.mk (ha.b.below HAl.out)
  have HRl := Kp.mk (ha.l.below HAl.out)
  obtain ⟨wa, hwa⟩ : ∃ W, W = w.alloc (.cells #[.int .i64 5, .int .i64 at_, .int .i64 n, .string P, .string Q, .slice Ab nb cb, .slice Al nl cl] 54) := ⟨_, rfl⟩
  obtain ⟨bA, hbA⟩ : ∃ x, x = w.heap.size := ⟨_, rfl⟩
  rw [← hwa] at HAl hgt HT HRb HRl
  rw [← hbA] at hgt HbA
  have y0 := cells_top hgt 0 _ rfl
  have y1 := cells_top hgt 1 _ rfl
  have y2 := cells_top hgt 2 _ rfl
  have y3 := cells_top hgt 3 _ rfl
  have y4 := cells_top hgt 4 _ rfl
  have y5 := cells_top hgt 5 _ rfl
  have y6 := cells_top hgt 6 _ rfl
  have HWA := Kp.mk hwa
  have HBA := Kp.mk hbA
  have hnb := ha.bn
  have hnl := ha.ln
  clear h ha hgt hwa hbA
  go_enter Try.func26, Try.ntmps26
  go_upto_region 1 with fail
  rw [← HWA.out, ← HBA.out]
  have HC := Kp.mk (crash_any wa B g σ S n HT.out.1 HT.out.2.2.2.2.1)
  go_wp2_with fail
  refine HC.out.mono ?_
  rintro e w1 ⟨rfl, hp⟩
  have y21 := hp.2.cell y2 HbA.out.1
  have HP := Kp.mk hp
  have HHf := Kp.mk (half_of HT.out hp rfl)
  have HR := Kp.mk (r_crash HHf.out.2.1 n HA.out.n1)
  clear hp
  go_wp2_with fail
  refine HR.out.mono ?_
  rintro e w2 ⟨rfl, hp2⟩
  have HP2 := Kp.mk hp2
  clear hp2
  go_wp2_with fail
  go_ret
  exact ⟨rfl, (post2_of HT.out HP.out rfl (Below.refl _ _) HP2.out).after HAl.out⟩
set_option maxHeartbeats 4000000 in
set_option maxRecDepth 100000 in
theorem do6 {w : World} {B B' g g' : Nat} {σ : DS} {S S' : Nat → Prop} (h : Two w B B' g g' σ S S') {at_ n : Int} {P Q : ByteArray} {Ab : Option Addr} {nb cb : Nat} {b : List Int} {Al : Option Addr} {nl cl : Nat} {l : List Int} (ha : ActP w S S' at_ n P Q Ab nb cb b Al nl cl l) :
    Calls Try.prog 26 #[.pointer (some ⟨g, 0, none⟩), .pointer (some ⟨g', 0, none⟩), .agg #[.int .i64 6, .int .i64 at_, .int .i64 n, .string P, .string Q, .slice Ab nb cb, .slice Al nl cl]] w fun e w' => e = .returned (.bool true) ∧ Post2 B B' g g' S S' w w' := by
  have HA := Kp.mk ha
  have HbA : Kp (¬ S w.heap.size ∧ ¬ S' w.heap.size) := ⟨fun e => Nat.lt_irrefl _ (h.2.2.1 _ e).2, fun e => Nat.lt_irrefl _ (h.2.2.2.1 _ e)⟩
  have HAl := Kp.mk (alloc_below w (.cells #[.int .i64 6, .int .i64 at_, .int .i64 n, .string P, .string Q, .slice Ab nb cb, .slice Al nl cl] 54))
  have HT := Kp.mk (h.below HAl.out)
  have HH := Kp.mk h
  have hgt := heap_alloc_new w (.cells #[.int .i64 6, .int .i64 at_, .int .i64 n, .string P, .string Q, .slice Ab nb cb, .slice Al nl cl] 54)
  have HRb := Kp.mk (ha.b.below HAl.out)
  have HRl := Kp.mk (ha.l.below HAl.out)
  obtain ⟨wa, hwa⟩ : ∃ W, W = w.alloc (.cells #[.int .i64 6, .int .i64 at_, .int .i64 n, .string P, .string Q, .slice Ab nb cb, .slice Al nl cl] 54) := ⟨_, rfl⟩
  obtain ⟨bA, hbA⟩ : ∃ x, x = w.heap.size := ⟨_, rfl⟩
  rw [← hwa] at HAl hgt HT HRb HRl
  rw [← hbA] at hgt HbA
  have y0 := cells_top hgt 0 _ rfl
  have y1 := cells_top hgt 1 _ rfl
  have y2 := cells_top hgt 2 _ rfl
  have y3 := cells_top hgt 3 _ rfl
  have y4 := cells_top hgt 4 _ rfl
  have y5 := cells_top hgt 5 _ rfl
  have y6 := cells_top hgt 6 _ rfl
  have HWA := Kp.mk hwa
  have HBA := Kp.mk hbA
  have hnb := ha.bn
  have hnl := ha.ln
  clear h ha hgt hwa hbA
  go_enter Try.func26, Try.ntmps26
  go_upto_region 1 with fail
  rw [← HWA.out, ← HBA.out]
  go_wp2_with (at_builtin; refine wpList_append_new rfl (.const (.slice none 0 0)) (.tmp 138) 32 3 .i64 8 rfl Try.underlying32 Try.infoInt (by decide) nl cl l Al rfl rfl HRl.out (by omega) ?_; intro A1 c1 w1 h1 h2 h3 h4; have HR1 := Kp.mk h1; have HB1 := Kp.mk h4; have y61 := cell_kept h4 y6; clear h1 h2 h3 h4)
  have HT1 := Kp.mk (HT.out.below HB1.out)
  refine (fail_any w1 B g σ S A1 nl c1 l HT1.out.1 HT1.out.2.2.2.2.1 HR1.out (by omega)).mono ?_
  rintro e w2 ⟨rfl, hp⟩
  have y62 := hp.2.cell y61 HbA.out.1
  have HP := Kp.mk hp
  have HHf := Kp.mk (half_of HT1.out hp rfl)
  have HRl2 := Kp.mk ((HRl.out.below HB1.out).kept hp.2 (fun ad e hn => (HA.out.lS ad e hn).1))
  have HR := Kp.mk (r_fail HHf.out.2.1 HRl2.out (by omega))
  clear hp
  go_wp2_with fail
  refine HR.out.mono ?_
  rintro e w3 ⟨rfl, hp2⟩
  have HP2 := Kp.mk hp2
  clear hp2
  go_wp2_with fail
  go_ret
  exact ⟨rfl, ((post2_of HT1.out HP.out rfl (Below.refl _ _) HP2.out).after HB1.out).after HAl.out⟩
theorem read_len {w : World} {B g : Nat} {σ : DS} {S : Nat → Prop} (P : ByteArray) (at_ n : Int) (h : IsR w B g σ S) : (σ.read P at_ n).2.2.length ≤ 16777216 := by
  have hs : ∀ x ∈ σ.files, x.2.1.length ≤ 16777216 := by
    obtain ⟨room, v, A, c, ps, hr⟩ := h
    exact hr.small
  have hb : (σ.begin (nameOk P)).2.files = σ.files := by
    unfold DS.begin
    split
    · rfl
    · split <;> rfl
  unfold DS.read
  simp only
  split
  · rw [hb, look_has _ h.srt]
    split
    · simp
    · rename_i f hf
      split at hf
      · injection hf with hf
        split
        · simp
        · simp only [List.length_take, List.length_drop]
          have h1 : f.1.length ≤ 16777216 := by
            rw [← hf]
            simp only [List.getD]
            cases hg : σ.files[posA P.data.toList σ.files]? with
            | none => simp [afD]
            | some y => exact hs y (List.mem_of_getElem? hg)
          omega
      · cases hf
  · simp
set_option maxHeartbeats 4000000 in
set_option maxRecDepth 100000 in
theorem do4 {w : World} {B B' g g' : Nat} {σ : DS} {S S' : Nat → Prop} (h : Two w B B' g g' σ S S') {at_ n : Int} {P Q : ByteArray} {Ab : Option Addr} {nb cb : Nat} {b : List Int} {Al : Option Addr} {nl cl : Nat} {l : List Int} (ha : ActP w S S' at_ n P Q Ab nb cb b Al nl cl l) :
    Calls Try.prog 26 #[.pointer (some ⟨g, 0, none⟩), .pointer (some ⟨g', 0, none⟩), .agg #[.int .i64 4, .int .i64 at_, .int .i64 n, .string P, .string Q, .slice Ab nb cb, .slice Al nl cl]] w fun e w' => e = .returned (.bool true) ∧ Post2 B B' g g' S S' w w' := by
  have HA := Kp.mk ha
  have HbA : Kp (¬ S w.heap.size ∧ ¬ S' w.heap.size) := ⟨fun e => Nat.lt_irrefl _ (h.2.2.1 _ e).2, fun e => Nat.lt_irrefl _ (h.2.2.2.1 _ e)⟩
  have HAl := Kp.mk (alloc_below w (.cells #[.int .i64 4, .int .i64 at_, .int .i64 n, .string P, .string Q, .slice Ab nb cb, .slice Al nl cl] 54))
  have HT := Kp.mk (h.below HAl.out)
  have HH := Kp.mk h
  have hgt := heap_alloc_new w (.cells #[.int .i64 4, .int .i64 at_, .int .i64 n, .string P, .string Q, .slice Ab nb cb, .slice Al nl cl] 54)
  have HRb := Kp.mk (ha.b.below HAl.out)
  have HRl := Kp.mk (ha.l.below HAl.out)
  obtain ⟨wa, hwa⟩ : ∃ W, W = w.alloc (.cells #[.int .i64 4, .int .i64 at_, .int .i64 n, .string P, .string Q, .slice Ab nb cb, .slice Al nl cl] 54) := ⟨_, rfl⟩
  obtain ⟨bA, hbA⟩ : ∃ x, x = w.heap.size := ⟨_, rfl⟩
  rw [← hwa] at HAl hgt HT HRb HRl
  rw [← hbA] at hgt HbA
  have y0 := cells_top hgt 0 _ rfl
  have y1 := cells_top hgt 1 _ rfl
  have y2 := cells_top hgt 2 _ rfl
  have y3 := cells_top hgt 3 _ rfl
  have y4 := cells_top hgt 4 _ rfl
  have y5 := cells_top hgt 5 _ rfl
  have y6 := cells_top hgt 6 _ rfl
  have HWA := Kp.mk hwa
  have HBA := Kp.mk hbA
  have hnb := ha.bn
  have hnl := ha.ln
  clear h ha hgt hwa hbA
  go_enter Try.func26, Try.ntmps26
  go_upto_region 1 with fail
  rw [← HWA.out, ← HBA.out]
  have HC := Kp.mk (read_any wa B g σ S P at_ n HT.out.1 HA.out.P HA.out.a1 HA.out.n1)
  have HR := Kp.mk (fun (W : World) (h1 : IsR W B' g' σ S') => r_read h1 P HA.out.P at_ n HA.out.a1 HA.out.n1)
  go_wp2_with fail
  refine HC.out.mono ?_
  rintro e w1 ⟨A1, k1, c1, rfl, hown, hd, hf⟩
  have y11 := hf.cell y1 HbA.out.1
  have y21 := hf.cell y2 HbA.out.1
  have y31 := hf.cell y3 HbA.out.1
  have HP : Kp (Post B g S (σ.read P at_ n).2.1 wa w1) := ⟨hd.mono (fun k _ h => .inl h), hf⟩
  have HHf := Kp.mk (half_of HT.out HP.out (read_room σ P at_ n))
  have hrd := own_rd hown (by have := hown.1; simp [nums] at this; have := read_len (σ := σ) P at_ n HT.out.2.1; omega)
  have HOwn := Kp.mk hrd
  clear hown hd hf hrd
  go_wp2_with fail
  refine (HR.out _ HHf.out.2.1).mono ?_
  rintro e w2 ⟨A2, k2, c2, rfl, hrd2, hp2⟩
  have HP2 := Kp.mk hp2
  have hrd1 := HOwn.out.1.kept hp2.2 (fun ad e hn hS => by
    have h1 := (HOwn.out.2 ad e).2.1
    have h2 := HHf.out.2.2.2.1 _ hS
    have h3 := HT.out.2.2.2.1 _ hS
    omega)
  have s1 := rd_string hrd1
  have s2 := rd_string hrd2
  clear hrd1 hrd2 hp2
  obtain ⟨z, hz⟩ : ∃ z, z = strOfNums (σ.read P at_ n).2.2 := ⟨_, rfl⟩
  rw [← hz] at s1 s2
  clear hz
  go_wp2_with (go_at_call 12; refine (num_any _ _).mono ?_; rintro e wn ⟨rfl, hwn⟩; subst hwn)
  go_ret
  exact ⟨by simp, (post2_of HT.out HP.out (read_room σ P at_ n) (Below.refl _ _) HP2.out).after HAl.out⟩
set_option maxHeartbeats 4000000 in
set_option maxRecDepth 100000 in
theorem do0 {w : World} {B B' g g' : Nat} {σ : DS} {S S' : Nat → Prop} (h : Two w B B' g g' σ S S') {at_ n : Int} {P Q : ByteArray} {Ab : Option Addr} {nb cb : Nat} {b : List Int} {Al : Option Addr} {nl cl : Nat} {l : List Int} (ha : ActP w S S' at_ n P Q Ab nb cb b Al nl cl l) :
    Calls Try.prog 26 #[.pointer (some ⟨g, 0, none⟩), .pointer (some ⟨g', 0, none⟩), .agg #[.int .i64 0, .int .i64 at_, .int .i64 n, .string P, .string Q, .slice Ab nb cb, .slice Al nl cl]] w fun e w' => e = .returned (.bool true) ∧ Post2 B B' g g' S S' w w' := by
  have HA := Kp.mk ha
  have HbA : Kp (¬ S w.heap.size ∧ ¬ S' w.heap.size) := ⟨fun e => Nat.lt_irrefl _ (h.2.2.1 _ e).2, fun e => Nat.lt_irrefl _ (h.2.2.2.1 _ e)⟩
  have HAl := Kp.mk (alloc_below w (.cells #[.int .i64 0, .int .i64 at_, .int .i64 n, .string P, .string Q, .slice Ab nb cb, .slice Al nl cl] 54))
  have HT := Kp.mk (h.below HAl.out)
  have HH := Kp.mk h
  have hgt := heap_alloc_new w (.cells #[.int .i64 0, .int .i64 at_, .int .i64 n, .string P, .string Q, .slice Ab nb cb, .slice Al nl cl] 54)
  have HRb := Kp.mk (ha.b.below HAl.out)
  have HRl := Kp.mk (ha.l.below HAl.out)
  obtain ⟨wa, hwa⟩ : ∃ W, W = w.alloc (.cells #[.int .i64 0, .int .i64 at_, .int .i64 n, .string P, .string Q, .slice Ab nb cb, .slice Al nl cl] 54) := ⟨_, rfl⟩
  obtain ⟨bA, hbA⟩ : ∃ x, x = w.heap.size := ⟨_, rfl⟩
  rw [← hwa] at HAl hgt HT HRb HRl
  rw [← hbA] at hgt HbA
  have y0 := cells_top hgt 0 _ rfl
  have y1 := cells_top hgt 1 _ rfl
  have y2 := cells_top hgt 2 _ rfl
  have y3 := cells_top hgt 3 _ rfl
  have y4 := cells_top hgt 4 _ rfl
  have y5 := cells_top hgt 5 _ rfl
  have y6 := cells_top hgt 6 _ rfl
  have HWA := Kp.mk hwa
  have HBA := Kp.mk hbA
  have hnb := ha.bn
  have hnl := ha.ln
  clear h ha hgt hwa hbA
  go_enter Try.func26, Try.ntmps26
  go_upto_region 1 with fail
  rw [← HWA.out, ← HBA.out]
  go_wp2_with (at_builtin; refine wpList_append_rd _ rfl (.const (.slice none 0 0)) (.tmp 19) 26 5 .u8 1 wa.heap.size rfl Try.underlying26 Try.infoU8 (by decide) (.slice none 0 0) 0 nb cb [] b Ab rfl rfl (World.ownsRow_nil _ _ _ _) HRb.out (by omega) (Nat.le_refl _) ?_; intro A1 c1 w1 h1 h2 h3; simp only [Nat.zero_add, List.nil_append] at h1 h3 ⊢; have hB1 : Below wa.heap.size wa w1 := (Below.refl _ _).grown h2 (Nat.le_refl _) (fun q hq => by cases hq); have HO := Kp.mk h1; have HB1 := Kp.mk hB1; have y31 := cell_kept hB1 y3; have y51 := cell_kept hB1 y5; clear h1 h2 h3 hB1)
  have HT1 := Kp.mk (HT.out.below HB1.out)
  have HRd1 := Kp.mk (own_rd HO.out (by omega))
  have HSlt : Kp (∀ k, S k ∨ S' k → k < wa.heap.size) := ⟨fun k hk => hk.elim (fun h => (HT.out.2.2.1 k h).2) (fun h => HT.out.2.2.2.1 k h)⟩
  refine (append_any w1 B g σ S P A1 nb c1 b HT1.out.1 HA.out.P HT1.out.2.2.2.2.2.1 HT1.out.2.2.2.2.1 HRd1.out.1 (fun ad e hn hS => by have := (HRd1.out.2 ad e).2.1; have := HSlt.out _ (.inl hS); omega)).mono ?_
  rintro e w2 ⟨rfl, hp⟩
  have y32 := hp.2.cell y31 HbA.out.1
  have y52 := hp.2.cell y51 HbA.out.1
  have HP := Kp.mk hp
  have HHf := Kp.mk (half_of HT1.out hp (append_room σ P b))
  have HL0 : Kp (0 < nb → ∃ q cur, A1 = some ⟨q, 0, none⟩ ∧ (wa.heap.size ≤ q ∧ q < w1.heap.size) ∧ w2.heap[q]? = some (.cells cur 5 (0, 0)) ∧ ∀ j, j < nb → ∃ x : Int, cur[j]? = some (.int .u8 x)) := ⟨fun hn => by
    rcases HO.out.2 with ⟨e1, e2⟩ | ⟨q, cap, cur, e1, hB, hh, h4, h5, h6, h7⟩
    · omega
    · injection e1 with e1 _ _
      have hq := lt_of_block hh
      refine ⟨q, cur, e1, ⟨hB, hq⟩, (HP.out.2.block q hq (fun hS => by have := HSlt.out _ (.inl hS); omega)).trans hh, fun j hj => ⟨b.getD j 0, ?_⟩⟩
      have hbl := HRb.out.len
      have h8 : (cur.toList.take (nb * 1))[j]? = some (.int .u8 (b.getD j 0)) := by rw [h7]; simp [nums, List.getD, show j < b.length by omega]
      rw [List.getElem?_take_of_lt (by omega)] at h8
      rw [← Array.getElem?_toList]; exact h8⟩
  clear hp
  go_wp2_with fail
  go_loopw [9] (fun i wr => ∃ k : Nat, i = .int .i64 (k : Nat) ∧ k ≤ nb ∧ Kp (0 < nb → ∃ q cur, A1 = some ⟨q, 0, none⟩ ∧ (wa.heap.size ≤ q ∧ q < w1.heap.size) ∧ wr.heap[q]? = some (.cells cur 5 (0, 0)) ∧ ∀ j, j < nb → ∃ x : Int, cur[j]? = some (.int .u8 x)) ∧ Kp (Fr w2 wr (fun x => wa.heap.size ≤ x ∧ x < w1.heap.size))) (fun i _ => nb - (intOf i).toNat)
  case atStart => exact ⟨0, rfl, Nat.zero_le _, HL0, ⟨Fr.refl _ _⟩⟩
  case round =>
    obtain ⟨k, rfl, hk, HL, HF⟩ := hrel
    by_cases hkn : k < nb
    · obtain ⟨q, cur, rfl, hq, hh, hc⟩ := HL.out (by omega)
      obtain ⟨x, hx⟩ := hc k hkn
      have z0 := cells_top hh k _ hx
      have zf := free_top hh k
      have hkn' : ¬ nb ≤ k := by omega
      have HX := Kp.mk (And.intro hq (And.intro hh hc))
      clear hq hh hc HL0 HL hx
      go_wp2_with fail
      go_roundw
      case rel =>
        obtain ⟨hq, hh, hc⟩ := HX.out
        refine ⟨k + 1, by go_num, by omega, ⟨fun _ => ⟨q, _, rfl, hq, heap_setCell_same _ _ _ _ _ _ hh, fun j hj => ?_⟩⟩, ⟨HF.out.setCell (a := ⟨q, k, none⟩) (.inl hq) _⟩⟩
        obtain ⟨xj, hxj⟩ := hc j hj
        by_cases hjk : j = k
        · subst hjk
          have : j < cur.size := (Array.getElem?_eq_some_iff.1 hxj).1
          exact ⟨_, by rw [Array.getElem?_setIfInBounds_self_of_lt this]⟩
        · exact ⟨xj, by rw [Array.getElem?_setIfInBounds_ne (by omega)]; exact hxj⟩
      case measure => simp [intOf]; omega
    · obtain rfl : k = nb := by omega
      have HF2 : Kp (Half wr B B' g g' σ (σ.append P b).2 (fun k => (S k ∨ w1.heap.size ≤ k) ∧ k < w2.heap.size) S') := ⟨HHf.out.fr HF.out (fun k hk => ⟨fun h => h.1.elim (fun h => by have := HSlt.out _ (.inl h); omega) (fun h => by omega), fun h => by have := HSlt.out _ (.inr h); omega⟩)⟩
      have y3r := HF.out.cell y32 (by rintro ⟨h, _⟩; exact absurd h (Nat.not_le.2 (World.block_lt_of_cell? wa _ y3)))
      have y5r := HF.out.cell y52 (by rintro ⟨h, _⟩; exact absurd h (Nat.not_le.2 (World.block_lt_of_cell? wa _ y5)))
      have HFd := Kp.mk (HF2.out.below (Below.refl _ _).drew)
      have hfb : Fr wa wr (fun x => S x ∨ (wa.heap.size ≤ x ∧ x < w1.heap.size)) := ((Fr.of_below HB1.out).trans HP.out.2 (fun k h => .inl (.inl h))).trans HF.out (fun k h => .inl (.inr h))
      have HRbr := Kp.mk ((HRb.out.kept hfb (fun ad e hn h => h.elim (fun h => (HA.out.bS ad e hn).1 h) (fun h => by have := (HRb.out.lt) ad e hn; omega))).below ((Below.refl _ _).drew))
      have HR := Kp.mk (r_append HFd.out.2.1 P HA.out.P HRbr.out (by omega) (fun ad e hn => (HA.out.bS ad e hn).2) HFd.out.2.2.2.2.2.1.2)
      clear hfb HL HL0 y3 y5 y31 y51 y32 y52
      go_wp2_with fail
      go_region_held3 (fun w' => w'.cell? ⟨bA, 3, none⟩ = some (.string P) ∧ w'.cell? ⟨bA, 5, none⟩ = some (.slice Ab k cb)) (go_keep) (first
        | (go_at_call 12; refine (num_any _ _).mono ?_; rintro e wn ⟨rfl, hwn⟩; subst hwn)
        | (go_at_call 35; refine HR.out.mono ?_; rintro e w3 ⟨rfl, hp2⟩; have y3s := hp2.2.cell y3r HbA.out.2; have y5s := hp2.2.cell y5r HbA.out.2; have HP2 := Kp.mk hp2; clear hp2))
      all_goals
        go_wp2_with fail
        go_ret
        refine ⟨by simp, Post2.after HAl.out ?_⟩
        refine ⟨_, _, _, two_of HFd.out HP2.out, fun x hx => ?_, ?_⟩
        · rcases hx with hx | hx
          · exact hx.1.imp (fun h => .inl h) (fun h => Nat.le_trans HB1.out.size h)
          · refine hx.1.imp (fun h => .inr h) (fun h => Nat.le_trans HB1.out.size (Nat.le_trans (Nat.le_trans HP.out.2.size HF.out.size) h))
        · have h1 := ((((Fr.of_below (S := fun k => S k ∨ S' k) HB1.out).trans HP.out.2 (fun k h => .inl (.inl h))).trans HF.out (fun k h => .inr h.1)).below (Below.refl _ _).drew)
          exact h1.trans HP2.out.2 (fun k h => .inl (.inr h))
end Go.Proofs.Ytgeklapphkgdkaa.Dsk
