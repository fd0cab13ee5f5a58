import Derived.Test.YtpgkpigpehehmaaMrgQ
set_option linter.unusedVariables false
set_option linter.unusedSimpArgs false
namespace Go.Proofs.Ytpgkpigpehehmaa.Bas
open Go.RowKit Go.Maps Go.Sort Go.Shelf Go.Lib

theorem holds_cells2 {w0 W : World} {blk : Nat} {d : Array (Cell4 w0)} (h : HoldsK (encC (w0 := w0)) 4 W blk 0 d) {k : Nat} (hk : k < d.size) : ∀ j u, (d[k]!).1.1[j]? = some u → W.cell? ⟨blk, k * 4 + j, none⟩ = some u := by
  intro j u hu
  have h4 := enC_size (d[k]!).2
  have hj : j < 4 := by have := (Array.getElem?_eq_some_iff.1 hu).1; omega
  have := (h (k * 4 + j) (by rw [size_flatK]; omega)).1
  rw [Nat.zero_add, get_flatK _ _ _ _ (by omega), show (k * 4 + j) / 4 = k by omega, show (k * 4 + j) % 4 = j by omega] at this
  rw [this]
  have hl := encC_len d[k]!
  rw [getElem!_pos (encC d[k]!) j (by omega)]
  have : encC d[k]! = d[k]!.1.1.toList := rfl
  simp only [this]
  rw [Array.getElem_toList]
  exact (Array.getElem?_eq_some_iff.1 hu).2 ▸ rfl
/-- slices.Reverse of the call's own row. -/
theorem reverse_ow {B : Nat} {w : World} {v : Value} {ps : List Pr} (h : Ow B w v ps) (hn : ps.length ≤ 1000000) :
    Calls Try.prog 24 #[v] w fun e w' => e = .returned (.tuple #[]) ∧ Fr w w' (fun k => some k = v.ownBlock) ∧ ∃ A c, v = .slice A ps.length c ∧ Es w' A ps.length c (ps.map (·.2)).reverse := by
  rcases h.own.2 with ⟨e1, e2⟩ | ⟨g, cap, cur, e1, hg, hh, _⟩
  · subst e1
    have hp : ps = [] := List.eq_nil_of_length_eq_zero e2
    subst hp
    refine (rev_one w none 0 0 (by omega)).mono ?_
    rintro e w1 ⟨rfl, rfl⟩
    exact ⟨rfl, Fr.refl _ _, none, 0, rfl, ⟨rfl, Nat.zero_le _, fun _ => ⟨rfl, rfl⟩, fun h => absurd h (Nat.lt_irrefl 0)⟩⟩
  · subst e1
    have hcells : ∀ (j : Nat) (u : Value), (flat4 ps)[j]? = some u → cur[j]? = some u := fun j u hu => by
      have := h.own.cells (g := g) rfl j u hu
      rwa [Addr.add_lit, Nat.zero_add, cell_of_row w g j cur _ (0, 0) hh] at this
    have hH := holds4 ps h.en hh hcells
    have hsz := cellsOf4_size ps h.en
    have hlt : g < w.heap.size := lt_of_block hh
    have R : RowK (encC (w0 := w)) 4 w g 0 (cellsOf4 ps h.en) := ⟨encC_len, encC_one, hH, hlt⟩
    have hc := reverse_any (cap := cap) rfl R (by omega)
    rw [hsz] at hc
    refine hc.mono ?_
    rintro e w1 ⟨rfl, d', hz, S, hrev⟩
    have hfr := swk_fr S
    refine ⟨rfl, hfr.mono (fun k _ hk => by rw [hk]; rfl), _, _, rfl, ⟨by simp, hn, (fun e => by cases e), fun hp => ⟨g, 0, rfl, fun i hi => ?_⟩⟩⟩
    have hq : ps.length - 1 - i < ps.length := by omega
    have e1 : d'[i]! = (cellsOf4 ps h.en)[ps.length - 1 - i]! := hrev i hi
    have e2 := cellsOf4_getD ps h.en (ps.length - 1 - i) hq
    have hc := holds_cells2 (S.holds hlt hH (by omega)) (k := i) (by omega)
    rw [e1, e2] at hc
    have hm : ps.getD (ps.length - 1 - i) (#[], enD) ∈ ps := by simp [List.getD, hq]
    have hv : ((ps.map (·.2)).reverse).getD i enD = (ps.getD (ps.length - 1 - i) (#[], enD)).2 := by
      have h1 : i < ((ps.map (·.2)).reverse).length := by simpa using hi
      rw [List.getD_eq_getElem?_getD, List.getElem?_eq_getElem h1, List.getD_eq_getElem?_getD, List.getElem?_eq_getElem hq]
      simp
    refine ⟨(ps.getD (ps.length - 1 - i) (#[], enD)).1, ?_, fun j u hu => by rw [Nat.zero_add]; exact hc j u hu⟩
    rw [hv]
    refine (h.en _ hm).kept hfr (fun A n c hA hn hk => h.apart _ hm A n c hA hn ?_)
    rw [hk]
    rfl
/-- What Back tells. -/
def BackQ (w0 : World) (ess : List (List En)) (e : Ending) (w' : World) : Prop :=
  Below w0.heap.size w0 w' ∧
    ((allRise ess = false ∧ e = .returned (.tuple #[.slice none 0 0, .int .i64 10])) ∨
      (allRise ess = true ∧ ∃ A n c L', StR ess.flatten L' ∧ L'.length = ess.flatten.length ∧ e = .returned (.tuple #[.slice A n c, .int .i64 0]) ∧ Es w' A n c (dd L' L'.length).reverse))
set_option maxHeartbeats 2000000 in
set_option maxRecDepth 100000 in
theorem back_gen {w : World} {A : Option Addr} {n c : Nat} {ess : List (List En)} (h : Ls w A n c ess) (hT : ess.flatten.length ≤ 1000000) :
    Calls Try.prog 10 #[.slice A n c] w (BackQ w ess) := by
  have Ha := Kp.mk (all_gen h hT)
  have HT := Kp.mk hT
  clear h hT
  go_enter Try.func10, Try.ntmps10
  go_wp2_with fail
  refine Ha.out.mono ?_
  rintro e w1 ⟨hb1, (⟨hr, rfl⟩ | ⟨hr, v, ps, L', hR, hL, rfl, hO, hp⟩)⟩
  · have HR := Kp.mk hr
    have HB := Kp.mk hb1
    clear hr hb1
    go_wp2_with (go_at_call 24; refine (rev_one _ none 0 0 (by omega)).mono ?_; rintro e w2 ⟨rfl, hw2⟩)
    subst hw2
    go_ret2
    exact ⟨HB.out, .inl ⟨HR.out, rfl⟩⟩
  · have hn1 : ps.length ≤ 1000000 := by
      have h2 := congrArg List.length hp
      rw [List.length_map] at h2
      have := dd_le L' L'.length
      have := HT.out
      omega
    have HK := Kp.mk (And.intro hb1 (And.intro hr (And.intro hR (And.intro hL hp))))
    have Hrc := Kp.mk (reverse_ow hO hn1)
    have Hbs := Kp.mk hO.base
    clear hb1 hr hR hL hp hn1 hO
    go_wp2_with (go_at_call 24; refine Hrc.out.mono ?_; rintro e w2 ⟨rfl, hfr, A1, c1, rfl, hes⟩; have HF := Kp.mk hfr; have HE := Kp.mk hes; clear hfr hes)
    go_ret2
    refine ⟨HK.out.1.trans (HF.out.toBelow (fun k hk => Hbs.out k hk.symm) HK.out.1.size), .inr ⟨HK.out.2.1, A1, _, c1, L', HK.out.2.2.1, HK.out.2.2.2.1, rfl, ?_⟩⟩
    have := HE.out
    rwa [HK.out.2.2.2.2] at this
end Go.Proofs.Ytpgkpigpehehmaa.Bas
