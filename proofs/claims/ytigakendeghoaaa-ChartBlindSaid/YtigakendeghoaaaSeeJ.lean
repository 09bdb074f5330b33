/-
  Contract: chart.See. No condition.
-/
import Derived.Test.YtigakendeghoaaaSeeI
namespace Go.Proofs.Ytigakendeghoaaa.See
open Go.RowKit
open Apart (chV chB box6 ChAt)
open chartPlaces (Ok)
attribute [local go_sem ↓] Go.wp_at_zero Go.wp_at_succ
/-- a core's block -/
def kBlk (b : Nat) (sv hv : Value) (l : Bool) (lv : Value) : Nat × Obj := (b, .cells #[sv, hv, .bool l, lv] 40)
section
variable {W w : World} {M m : List (Nat × Obj)} {B o N k b : Nat} {g : List Nat} {c : Ch} {d e : Int}
theorem boxK {b : Nat} {sv hv lv : Value} {l : Bool} (h : Own W (kBlk b sv hv l lv :: m) w) : (w.cell? ⟨b, 0, none⟩ = some sv ∧ w.cell? ⟨b, 1, none⟩ = some hv ∧ w.cell? ⟨b, 2, none⟩ = some (.bool l) ∧ w.cell? ⟨b, 3, none⟩ = some lv) ∧ (w.frozen? ⟨b, 0, none⟩ = false ∧ w.frozen? ⟨b, 1, none⟩ = false ∧ w.frozen? ⟨b, 2, none⟩ = false ∧ w.frozen? ⟨b, 3, none⟩ = false) :=
  ⟨⟨h.cell List.mem_cons_self 0, h.cell List.mem_cons_self 1, h.cell List.mem_cons_self 2, h.cell List.mem_cons_self 3⟩, ⟨h.frozen List.mem_cons_self 0, h.frozen List.mem_cons_self 1, h.frozen List.mem_cons_self 2, h.frozen List.mem_cons_self 3⟩⟩
theorem kset {b : Nat} {sv hv lv sv' hv' lv' : Value} {l l' : Bool} (h : Own W (kBlk b sv hv l lv :: m) w) : Own W (kBlk b sv' hv' l' lv' :: m) ((((w.setCell ⟨b, 0, none⟩ sv').setCell ⟨b, 1, none⟩ hv').setCell ⟨b, 2, none⟩ (.bool l')).setCell ⟨b, 3, none⟩ lv') := by
  have h1 := (((h.set 0 sv').set 1 hv').set 2 (.bool l')).set 3 lv'
  exact h1
theorem upto_step {α : Type} {f : Nat → Option α} {n : Nat} {l : List α} {x : α} (h : upto f n = some l) (hx : f n = some x) : upto f (n + 1) = some (l ++ [x]) := by
  unfold upto
  rw [h, hx]
theorem see_perm1 {α : Type} (a b c d : List α) : (a ++ (b ++ (c ++ d))).Perm (c ++ (a ++ (b ++ d))) :=
  (List.Perm.append_left a (perm_swap b c d)).trans (perm_swap a c _)
theorem see_perm2 {α : Type} (a b c d : List α) (x : α) (e : List α) : (a ++ (b ++ (c ++ (d ++ x :: e)))).Perm (x :: (a ++ (b ++ (c ++ (d ++ e))))) := by
  have h : ∀ (l : List α) (m : List α), m.Perm (x :: e) → (l ++ m).Perm (x :: (l ++ e)) := fun l m hm => (List.Perm.append_left l hm).trans List.perm_middle
  have h1 : (d ++ x :: e).Perm (x :: (d ++ e)) := List.perm_middle
  have h2 : (c ++ (d ++ x :: e)).Perm (x :: (c ++ (d ++ e))) := (List.Perm.append_left c h1).trans List.perm_middle
  have h3 : (b ++ (c ++ (d ++ x :: e))).Perm (x :: (b ++ (c ++ (d ++ e)))) := (List.Perm.append_left b h2).trans List.perm_middle
  exact (List.Perm.append_left a h3).trans List.perm_middle
theorem see_perm3 (a lb pb : List (Nat × Obj)) (Ls : List SlotN) (y : Nat × Obj) (e : List (Nat × Obj)) {x : SlotP} {lv pv : Value} : (y :: (a ++ (lb ++ (pb ++ (slotBlocks Ls ++ e))))).Perm (a ++ ((slotBlocks Ls ++ slotBlocks [⟨x, lv, lb, pv, pb⟩]) ++ y :: e)) := by
  have e1 : slotBlocks [⟨x, lv, lb, pv, pb⟩] = lb ++ pb := by simp [slotBlocks]
  rw [e1]
  have h1 : (lb ++ (pb ++ (slotBlocks Ls ++ e))).Perm (slotBlocks Ls ++ (lb ++ (pb ++ e))) := (List.Perm.append_left lb (perm_swap pb _ e)).trans (perm_swap lb _ _)
  have h2 : ((slotBlocks Ls ++ (lb ++ pb)) ++ y :: e).Perm (y :: ((slotBlocks Ls ++ (lb ++ pb)) ++ e)) := List.perm_middle
  have h3 : ((slotBlocks Ls ++ (lb ++ pb)) ++ e) = slotBlocks Ls ++ (lb ++ (pb ++ e)) := by simp [List.append_assoc]
  rw [h3] at h2
  refine (List.Perm.cons y (List.Perm.append_left a h1)).trans ?_
  exact (List.perm_middle.symm).trans (List.Perm.append_left a h2.symm)
theorem kset0 {b : Nat} {sv hv lv sv' : Value} {l : Bool} (h : Own W (kBlk b sv hv l lv :: m) w) : Own W (kBlk b sv' hv l lv :: m) (w.setCell ⟨b, 0, none⟩ sv') := h.set 0 sv'
theorem kset1 {b : Nat} {sv hv lv hv' : Value} {l : Bool} (h : Own W (kBlk b sv hv l lv :: m) w) : Own W (kBlk b sv hv' l lv :: m) (w.setCell ⟨b, 1, none⟩ hv') := h.set 1 hv'
theorem kset3 {b : Nat} {sv hv lv lv' : Value} {l : Bool} (h : Own W (kBlk b sv hv l lv :: m) w) : Own W (kBlk b sv hv l lv' :: m) (w.setCell ⟨b, 3, none⟩ lv') := h.set 3 lv'
theorem see_perm4 {α : Type} (a b c : List α) (x y z u : α) (m : List α) : (a ++ (b ++ (c ++ (x :: (y :: (z :: (u :: m))))))).Perm (x :: (y :: (z :: (u :: (a ++ (b ++ (c ++ m))))))) := by
  have h1 : (c ++ ([x, y, z, u] ++ m)).Perm ([x, y, z, u] ++ (c ++ m)) := perm_swap _ _ _
  have h2 : (b ++ ([x, y, z, u] ++ (c ++ m))).Perm ([x, y, z, u] ++ (b ++ (c ++ m))) := perm_swap _ _ _
  have h3 : (a ++ ([x, y, z, u] ++ (b ++ (c ++ m)))).Perm ([x, y, z, u] ++ (a ++ (b ++ (c ++ m)))) := perm_swap _ _ _
  exact (List.Perm.append_left a ((List.Perm.append_left b h1).trans h2)).trans h3
theorem see_perm5 {α : Type} (a b c : List α) (x : α) (e : List α) : (a ++ (b ++ (c ++ x :: e))).Perm (x :: (a ++ (b ++ (c ++ e)))) := by
  have h1 : (c ++ x :: e).Perm (x :: (c ++ e)) := List.perm_middle
  have h2 : (b ++ (c ++ x :: e)).Perm (x :: (b ++ (c ++ e))) := (List.Perm.append_left b h1).trans List.perm_middle
  exact (List.Perm.append_left a h2).trans List.perm_middle
theorem see_perm6 (a lb : List (Nat × Obj)) (Ll : List SlabN) (y : Nat × Obj) (e : List (Nat × Obj)) {x : SlabP} {v : Value} : (y :: (a ++ (lb ++ (slabBlocks Ll ++ e)))).Perm (a ++ ((slabBlocks Ll ++ slabBlocks [⟨x, v, lb⟩]) ++ y :: e)) := by
  have e1 : slabBlocks [⟨x, v, lb⟩] = lb := by simp [slabBlocks]
  rw [e1]
  have h1 : (lb ++ (slabBlocks Ll ++ e)).Perm (slabBlocks Ll ++ (lb ++ e)) := perm_swap lb _ e
  have h2 : ((slabBlocks Ll ++ lb) ++ y :: e).Perm (y :: ((slabBlocks Ll ++ lb) ++ e)) := List.perm_middle
  rw [List.append_assoc (slabBlocks Ll) lb e] at h2
  refine (List.Perm.cons y (List.Perm.append_left a h1)).trans ?_
  exact (List.perm_middle.symm).trans (List.Perm.append_left a h2.symm)
theorem see_perm7 {α : Type} (a l : List α) (x y z : α) (e : List α) : (a ++ (l ++ (x :: (y :: (z :: e))))).Perm (z :: (a ++ (l ++ (x :: (y :: e))))) := by
  have h1 : (x :: (y :: (z :: e))).Perm (z :: (x :: (y :: e))) := (List.Perm.cons x (List.Perm.swap _ _ _)).trans (List.Perm.swap _ _ _)
  have h2 : (l ++ (x :: (y :: (z :: e)))).Perm (z :: (l ++ (x :: (y :: e)))) := (List.Perm.append_left l h1).trans List.perm_middle
  exact (List.Perm.append_left a h2).trans List.perm_middle
theorem see_mv {α : Type} (a l p q e : List α) : (a ++ (l ++ (p ++ (q ++ e)))).Perm (q ++ (a ++ (l ++ (p ++ e)))) :=
  ((List.Perm.append_left a (List.Perm.append_left l (perm_swap p q e))).trans (List.Perm.append_left a (perm_swap l q _))).trans (perm_swap a q _)
theorem see_perm8 {α : Type} (a l p q r e : List α) : (a ++ (l ++ (p ++ (q ++ (r ++ e))))).Perm (q ++ (r ++ (p ++ (a ++ (l ++ e))))) := by
  refine (see_mv a l p q _).trans (List.Perm.append_left q ?_)
  refine (see_mv a l p r _).trans (List.Perm.append_left r ?_)
  exact (List.Perm.append_left a (perm_swap l p e)).trans (perm_swap a p _)
theorem see_sub {α : Type} (a l : List α) (x y z : α) (e : List α) : (a ++ (l ++ e)).Sublist (a ++ (l ++ (x :: (y :: (z :: e))))) :=
  (List.Sublist.refl a).append ((List.Sublist.refl l).append (((List.sublist_cons_self z e).trans (List.sublist_cons_self y _)).trans (List.sublist_cons_self x _)))
/-- what See answers -/
def SeePost (W : World) (m : List (Nat × Obj)) (r : Option CoreP) (e : Ending) (w' : World) : Prop := match r with
  | some K => ∃ v bs, e = .returned (.tuple #[v, .int .i64 0]) ∧ Hid (CoreO v K bs) ∧ Own W (bs ++ m) w'
  | none => e = .returned (.tuple #[.agg #[.slice none 0 0, .slice none 0 0, .bool false, .slice none 0 0], .int .i64 150]) ∧ Own W m w'
theorem words_eq (c : Ch) : 4 * (c.C : Int) + 4 + 4 * (c.S : Int) + (c.S : Int) * (c.O : Int) = (c.words : Int) := by
  unfold Ch.words
  push_cast
  rfl
set_option maxRecDepth 100000 in
set_option maxHeartbeats 8000000 in
theorem see_spec (h : Own W m w) (hc : COk c d e) (hw : WOk W m B o N k g c) :
    Calls Try.prog 36 #[.slice (some ⟨B, o, none⟩) N k, cV c d e] w (SeePost W m (seeP c g)) := by
  obtain ⟨n1, n2, n3, n4, n5, n6⟩ := hc.nums
  have h1 := (h.new (.cells #[.int .i64 c.C, .int .i64 c.S, .int .i64 c.O, .int .i64 d, .int .i64 e, .int .u64 c.key] 24)).new (.cells #[.slice none 0 0, .slice none 0 0, .bool false, .slice none 0 0] 40)
  obtain ⟨b, hb⟩ : ∃ b, w.heap.size = b := ⟨_, rfl⟩
  simp only [World.size_alloc] at h1
  rw [hb] at h1
  have h1 : Own W (kBlk (b + 1) (.slice none 0 0) (.slice none 0 0) false (.slice none 0 0) :: (chB b c.C c.S c.O d e c.key :: m)) _ := h1
  obtain ⟨y0, y1, y2, y3, y4, y5⟩ := box6 h1.skip
  have hN := hw.n
  have hwq := words_eq c
  rw [← hN] at hwq
  have hn32 : 32 ≤ N ∨ N < 32 := by omega
  obtain ⟨p, hp⟩ : ∃ p : Nat, 4 * c.C = p := ⟨_, rfl⟩
  have hpi : 4 * (c.C : Int) = (p : Int) := by omega
  obtain ⟨p1, hpp1⟩ : ∃ p1 : Nat, p + 1 = p1 := ⟨_, rfl⟩
  have hpi1 : 4 * (c.C : Int) + 1 = (p1 : Int) := by omega
  have hpN : p1 < N := by rw [hN]; unfold Ch.words; omega
  have hp2 : (0 : Int) ≤ (p1 : Int) := by omega
  have hp3 : (p1 : Int) < (N : Int) := by omega
  have HPI := Lib.hid hpi
  have HPI1 := Lib.hid hpi1
  have hp0 : (0 : Int) ≤ (p : Int) := by omega
  have hp1 : (p : Int) < (N : Int) := by omega
  obtain ⟨x0, hx0⟩ : ∃ x, g[p]? = some x := ⟨_, List.getElem?_eq_getElem (by rw [hw.len]; omega)⟩
  obtain ⟨x1, hx1⟩ : ∃ x, g[p1]? = some x := ⟨_, List.getElem?_eq_getElem (by rw [hw.len]; omega)⟩
  have a0 : at_ g (4 * c.C) = x0 := by unfold at_; rw [hp, List.getD_eq_getElem?_getD, hx0]; rfl
  have a1 : at_ g (4 * c.C + 1) = x1 := by unfold at_; rw [hp, hpp1, List.getD_eq_getElem?_getD, hx1]; rfl
  have HG : Hid (∀ ws, Own W m ws → ws.cell? ⟨B, o + p, none⟩ = some (.int .u64 (x0 : Int)) ∧ ws.cell? ⟨B, o + p1, none⟩ = some (.int .u64 (x1 : Int))) := fun ws hws => ⟨hw.rd ws hws p x0 hx0, hw.rd ws hws p1 x1 hx1⟩
  have HX1 : Hid (x1 < 18446744073709551616) := hw.w64 x1 (List.mem_of_getElem? hx1)
  obtain ⟨lk, hlk⟩ : ∃ lk, decide (x0 ≠ 0) = lk := ⟨_, rfl⟩
  have hlk2 : ((x0 : Int) != 0) = lk := by
    rw [← hlk]
    by_cases h0 : x0 = 0
    · subst h0; rfl
    · have : (x0 : Int) ≠ 0 := by omega
      simp [h0, this]
  have hR : seeP c g = match upto (slotP c g) c.C with
      | none => none
      | some a => match shelfP c g with
        | none => none
        | some l => match upto (slabP c g) c.S with
          | none => none
          | some b => some ⟨a, l, lk, b⟩ := by
    unfold seeP
    rw [a0, hlk]
    rfl
  obtain ⟨R, hRR⟩ : ∃ R, seeP c g = R := ⟨_, rfl⟩
  rw [hRR] at hR ⊢
  have HR := Lib.hid hR
  have HA1 := Lib.hid a1
  have HC := Lib.hid hc
  have HW := Lib.hid hw
  have HWQ := Lib.hid hwq
  have H1 := Lib.hid h1
  clear hpp1 hN hp hpi hpi1 hx0 hx1 a0 a1 hw hc h1 h hn32 hlk hR hRR hwq
  unfold cV chV
  go_enter Try.func36, Try.ntmps36
  go_wp2_with fail
  refine (Apart.check_ok HC.out.ok H1.out).mono ?_
  rintro r w2 ⟨rfl, h2⟩
  clear y0 y1 y2 y3 y4 y5
  obtain ⟨y0, y1, y2, y3, y4, y5⟩ := box6 h2.skip
  go_wp2_with fail
  refine (Apart.words_ok HC.out.ok h2).mono ?_
  rintro r w3 ⟨rfl, h3⟩
  rw [HWQ.out]
  clear y0 y1 y2 y3 y4 y5 h2
  obtain ⟨y0, y1, y2, y3, y4, y5⟩ := box6 h3.skip
  have h4 := h3.new (.cells #[.slice (some ⟨B, o, none⟩) N k, .int .i64 c.C, .int .i64 c.S, .int .i64 c.O, .int .i64 d, .int .i64 e, .int .u64 c.key] 84)
  obtain ⟨q, hq⟩ : ∃ q, w3.heap.size = q := ⟨_, rfl⟩
  rw [hq] at h4
  have h4 : Own W (rBlk q B o N k c d e :: (kBlk (b + 1) (.slice none 0 0) (.slice none 0 0) false (.slice none 0 0) :: (chB b c.C c.S c.O d e c.key :: m))) _ := h4
  obtain ⟨v0, v1, v2, v3, v4, v5⟩ := box6 h4.skip.skip
  go_wp2_with fail
  refine (Apart.lock_ok HC.out.ok h4).mono ?_
  rintro r w5 ⟨rfl, h5⟩
  rw [HPI.out]
  clear y0 y1 y2 y3 y4 y5 v0 v1 v2 v3 v4 v5 hq h3 h4
  obtain ⟨q0, q1⟩ := HG.out _ h5.skip.skip.skip
  have h6 := h5.new (.cells #[.slice none 0 0, .slice none 0 0, .bool lk, .slice none 0 0] 40)
  obtain ⟨t, ht⟩ : ∃ t, w5.heap.size = t := ⟨_, rfl⟩
  rw [ht] at h6
  have h6 : Own W (kBlk t (.slice none 0 0) (.slice none 0 0) lk (.slice none 0 0) :: (rBlk q B o N k c d e :: (kBlk (b + 1) (.slice none 0 0) (.slice none 0 0) false (.slice none 0 0) :: (chB b c.C c.S c.O d e c.key :: m)))) _ := h6
  obtain ⟨y0, y1, y2, y3, y4, y5⟩ := box6 h6.skip.skip.skip
  go_wp2_with fail
  have H6 := Lib.hid h6
  clear q0 q1 ht h5 h6 y0 y1 y2 y3 y4 y5
  go_loopw [39] (fun iv wr => ∃ (i : Nat) (Ls : List SlotN) (sv : Value) (b0 : List (Nat × Obj)), iv = .int .i64 i ∧ i ≤ c.C ∧ Hid (Ls.length = i) ∧ Hid (upto (slotP c g) i = some (Ls.map (·.x))) ∧ Hid (SlotsOk Ls) ∧ Hid (SlotsV sv Ls b0) ∧ Own W (b0 ++ (slotBlocks Ls ++ (kBlk t sv (.slice none 0 0) lk (.slice none 0 0) :: (rBlk q B o N k c d e :: (kBlk (b + 1) (.slice none 0 0) (.slice none 0 0) false (.slice none 0 0) :: (chB b c.C c.S c.O d e c.key :: m)))))) wr) (fun iv _ => c.C - (intOf iv).toNat)
  case atStart => exact ⟨0, [], .slice none 0 0, [], rfl, by omega, rfl, rfl, (fun s hs => by cases hs), SlO.nil _ _ _, H6.out⟩
  case round =>
    clear H6
    obtain ⟨i, Ls, sv, b0, rfl, hi, HLI, HUP, HSO, HSV, hr⟩ := hrel
    obtain ⟨A0, c0, hv0, -, -⟩ := HSV.out.slice
    rw [HLI.out] at hv0
    subst hv0
    have HSV2 : Hid (SlO true 78 4 (.slice A0 i c0) i (slotCells Ls) b0) := by have := HSV.out; unfold SlotsV at this; rw [HLI.out] at this; exact this
    by_cases hlt : i < c.C
    · have hlti : (i : Int) < (c.C : Int) := by omega
      have hsl := rslot_spec hr HC.out (((HW.out.more (m' := [kBlk t (.slice A0 i c0) (.slice none 0 0) lk (.slice none 0 0), rBlk q B o N k c d e, kBlk (b + 1) (.slice none 0 0) (.slice none 0 0) false (.slice none 0 0), chB b c.C c.S c.O d e c.key])).more (m' := slotBlocks Ls)).more (m' := b0)) i hlt
      obtain ⟨y0, y1, y2, y3, y4, y5, y6⟩ := box7 hr.dropL.dropL.skip
      cases hsp : slotP c g i with
      | none =>
        rw [hsp] at hsl
        have HSL := Lib.hid hsl
        have hnone : upto (slotP c g) c.C = none := upto_none hsp hlt
        have hk := HR.out
        rw [hnone] at hk
        simp only at hk
        subst hk
        clear hsl hsp hnone
        go_wp2_with fail
        refine HSL.out.mono ?_
        rintro r w7 ⟨rfl, h7⟩
        clear y0 y1 y2 y3 y4 y5 y6
        have h8 := h7.alloc (.cells #[.int .i64 0, .slice none 0 0, .int .u64 0, .slice none 0 0] 78)
        obtain ⟨⟨z0, z1, z2, z3⟩, ⟨f0, f1, f2, f3⟩⟩ := boxK h8.dropL.dropL.skip.skip
        go_wp2_with fail
        have h9 := kset (sv' := .slice none 0 0) (hv' := .slice none 0 0) (l' := false) (lv' := .slice none 0 0) h8.dropL.dropL.skip.skip
        obtain ⟨⟨e0, e1, e2, e3⟩, -⟩ := boxK h9
        exact bodyPost_ret (v := .tuple #[.agg #[.slice none 0 0, .slice none 0 0, .bool false, .slice none 0 0], .int .i64 150]) (by simp [results, Try.f36, go_sem, e0, e1, e2, e3]) rfl ⟨rfl, h9.skip.skip⟩
      | some x =>
        rw [hsp] at hsl
        have HSL := Lib.hid hsl
        have HUP2 := Lib.hid (upto_step HUP.out hsp)
        clear hsl hsp
        go_wp2_with fail
        refine HSL.out.mono ?_
        rintro r w7 ⟨lv, lb, pv, pb, rfl, KL, KP, h7⟩
        obtain ⟨A1, c1, hv1, -, -⟩ := KL.out.slice
        obtain ⟨A2, c2, hv2, -, -⟩ := KP.out.slice
        obtain ⟨l1, hl1⟩ : ∃ l1, x.list.length = l1 := ⟨_, rfl⟩
        obtain ⟨l2, hl2⟩ : ∃ l2, x.parts.length = l2 := ⟨_, rfl⟩
        rw [hl1] at hv1
        rw [hl2] at hv2
        subst hv1 hv2
        clear y0 y1 y2 y3 y4 y5 y6 hl1 hl2
        have h8 : Own W (b0 ++ (lb ++ (pb ++ (slotBlocks Ls ++ (kBlk t (.slice A0 i c0) (.slice none 0 0) lk (.slice none 0 0) :: (rBlk q B o N k c d e :: (kBlk (b + 1) (.slice none 0 0) (.slice none 0 0) false (.slice none 0 0) :: (chB b c.C c.S c.O d e c.key :: m)))))))) w7 := h7.perm (see_perm1 _ _ _ _)
        have h9 := h8.alloc (.cells #[.int .i64 x.slab, .slice A1 l1 c1, .int .u64 x.turn, .slice A2 l2 c2] 78)
        have H10 := Lib.hid (h9.alloc (.cells #[.int .i64 x.slab, .slice A1 l1 c1, .int .u64 x.turn, .slice A2 l2 c2] 78))
        have hsrc := src_vals (w7.alloc (.cells #[.int .i64 x.slab, .slice A1 l1 c1, .int .u64 x.turn, .slice A2 l2 c2] 78)) 78 [.int .i64 x.slab, .slice A1 l1 c1, .int .u64 x.turn, .slice A2 l2 c2]
        rw [World.size_alloc] at hsrc
        have HSRC := Lib.hid hsrc
        have hone : ∀ u ∈ [Value.int .i64 x.slab, .slice A1 l1 c1, .int .u64 x.turn, .slice A2 l2 c2], u.oneCell' = true := by
          intro u hu
          simp at hu
          rcases hu with rfl | rfl | rfl | rfl <;> rfl
        have HONE := Lib.hid hone
        obtain ⟨⟨z0, z1, z2, z3⟩, ⟨f0, f1, f2, f3⟩⟩ := boxK h9.dropL.dropL.dropL.dropL
        clear hsrc hone h7 h8 h9
        go_wp2_with (at_builtin; refine app_struct rfl _ _ 37 rfl rfl rfl _ slot_info Try.underlying37 rfl (by omega) (by omega) HSV2.out H10.out HSRC.out HONE.out (by omega) ?_; intro v' w' bs' k1 k2; have K1 := Lib.hid k1; obtain ⟨A9, c9, hv9, -, -⟩ := k1.slice; subst hv9; have K2 := Lib.hid k2; clear z0 z1 z2 z3 f0 f1 f2 f3; obtain ⟨⟨z0, z1, z2, z3⟩, ⟨f0, f1, f2, f3⟩⟩ := boxK k2.dropL.dropL.dropL.dropL; clear k1 k2)
        have hst := (kset0 (sv' := .slice A9 (i + 1) c9) (K2.out.perm (see_perm2 _ _ _ _ _ _)))
        refine ⟨⟨i + 1, Ls ++ [⟨x, .slice A1 l1 c1, lb, .slice A2 l2 c2, pb⟩], .slice A9 (i + 1) c9, bs', by go_num, by omega, ?_, ?_, ?_, ?_, ?_⟩, by simp [intOf]; omega⟩
        · show _ = _
          rw [List.length_append, HLI.out]
          rfl
        · show _ = _
          rw [List.map_append]
          exact HUP2.out
        · show SlotsOk _
          intro s hs
          rcases List.mem_append.1 hs with hs | hs
          · exact HSO.out s hs
          · rw [List.mem_singleton] at hs
            subst hs
            exact ⟨KL.out, KP.out⟩
        · show SlotsV _ _ _
          unfold SlotsV
          rw [List.length_append, HLI.out, slotCells_append]
          exact K1.out
        · refine hst.perm ?_
          rw [slotBlocks_append]
          exact see_perm3 _ _ _ _ _ _
    · have hiC : i = c.C := by omega
      subst hiC
      have hlti : ¬ (c.C : Int) < (c.C : Int) := by omega
      have hch := fun ws (hws : Own W (b0 ++ (slotBlocks Ls ++ (kBlk t (.slice A0 c.C c0) (.slice none 0 0) lk (.slice none 0 0) :: (rBlk q B o N k c d e :: (kBlk (b + 1) (.slice none 0 0) (.slice none 0 0) false (.slice none 0 0) :: (chB b c.C c.S c.O d e c.key :: m)))))) ws) => rchain_s hws HC.out (((HW.out.more (m' := [kBlk t (.slice A0 c.C c0) (.slice none 0 0) lk (.slice none 0 0), rBlk q B o N k c d e, kBlk (b + 1) (.slice none 0 0) (.slice none 0 0) false (.slice none 0 0), chB b c.C c.S c.O d e c.key])).more (m' := slotBlocks Ls)).more (m' := b0)) x1 HX1.out
      have hpe : chain shelfOf (nextAt c g) c.S (c.S + 1) [] x1 = shelfP c g := by
        unfold shelfP
        rw [HA1.out]
      rw [hpe] at hch
      have HRW := Lib.hid hr
      obtain ⟨y0, y1, y2, y3, y4, y5, y6⟩ := box7 hr.dropL.dropL.skip; obtain ⟨v0, v1, v2, v3, v4, v5⟩ := box6 hr.dropL.dropL.skip.skip.skip; obtain ⟨q0, q1⟩ := HG.out _ hr.dropL.dropL.skip.skip.skip.skip
      have hk := HR.out
      rw [HUP.out] at hk
      simp only at hk
      clear hpe hr
      cases hsh : shelfP c g with
      | none =>
        rw [hsh] at hch hk
        simp only at hk
        subst hk
        have HCH := Lib.hid hch
        clear hch hsh
        go_wp2_with fail
        go_region_held3 (fun w' => (w'.cell? ⟨q, 0, none⟩ = some (.slice (some ⟨B, o, none⟩) N k) ∧ w'.cell? ⟨q, 1, none⟩ = some (.int .i64 c.C) ∧ w'.cell? ⟨q, 2, none⟩ = some (.int .i64 c.S) ∧ w'.cell? ⟨q, 3, none⟩ = some (.int .i64 c.O) ∧ w'.cell? ⟨q, 4, none⟩ = some (.int .i64 d) ∧ w'.cell? ⟨q, 5, none⟩ = some (.int .i64 e) ∧ w'.cell? ⟨q, 6, none⟩ = some (.int .u64 c.key)) ∧ (w'.cell? ⟨b, 0, none⟩ = some (.int .i64 c.C) ∧ w'.cell? ⟨b, 1, none⟩ = some (.int .i64 c.S) ∧ w'.cell? ⟨b, 2, none⟩ = some (.int .i64 c.O) ∧ w'.cell? ⟨b, 3, none⟩ = some (.int .i64 d) ∧ w'.cell? ⟨b, 4, none⟩ = some (.int .i64 e) ∧ w'.cell? ⟨b, 5, none⟩ = some (.int .u64 c.key)) ∧ w'.cell? ⟨B, o + p1, none⟩ = some (.int .u64 (x1 : Int))) (first | (refine ⟨⟨?_, ?_, ?_, ?_, ?_, ?_, ?_⟩, ⟨?_, ?_, ?_, ?_, ?_, ?_⟩, ?_⟩ <;> assumption) | go_keep)
          (first | (go_at_call 16; refine (Apart.shelf_ok HC.out.ok HRW.out.drew).mono ?_; rintro r w7 ⟨rfl, h7⟩; rw [HPI1.out]; obtain ⟨y0, y1, y2, y3, y4, y5, y6⟩ := box7 h7.dropL.dropL.skip; obtain ⟨v0, v1, v2, v3, v4, v5⟩ := box6 h7.dropL.dropL.skip.skip.skip; obtain ⟨q0, q1⟩ := HG.out _ h7.dropL.dropL.skip.skip.skip.skip) |
            (go_at_call 65; refine (HCH.out _ h7).mono ?_; rintro r w8 ⟨rfl, h8⟩; obtain ⟨y0, y1, y2, y3, y4, y5, y6⟩ := box7 h8.dropL.dropL.skip; obtain ⟨v0, v1, v2, v3, v4, v5⟩ := box6 h8.dropL.dropL.skip.skip.skip; obtain ⟨q0, q1⟩ := HG.out _ h8.dropL.dropL.skip.skip.skip.skip))
        clear y0 y1 y2 y3 y4 y5 y6 v0 v1 v2 v3 v4 v5 q0 q1
        obtain ⟨⟨z0, z1, z2, z3⟩, ⟨f0, f1, f2, f3⟩⟩ := boxK h8.dropL.dropL.skip.skip
        go_wp2_with fail
        have h9 := kset (sv' := .slice none 0 0) (hv' := .slice none 0 0) (l' := false) (lv' := .slice none 0 0) h8.dropL.dropL.skip.skip
        obtain ⟨⟨e0, e1, e2, e3⟩, -⟩ := boxK h9
        exact bodyPost_ret (v := .tuple #[.agg #[.slice none 0 0, .slice none 0 0, .bool false, .slice none 0 0], .int .i64 150]) (by simp [results, Try.f36, go_sem, e0, e1, e2, e3]) rfl ⟨rfl, h9.skip.skip⟩
      | some sl =>
        rw [hsh] at hch hk
        simp only at hk
        have HCH := Lib.hid hch
        have HK := Lib.hid hk
        clear hch hsh hk
        go_wp2_with fail
        go_region_held3 (fun w' => (w'.cell? ⟨q, 0, none⟩ = some (.slice (some ⟨B, o, none⟩) N k) ∧ w'.cell? ⟨q, 1, none⟩ = some (.int .i64 c.C) ∧ w'.cell? ⟨q, 2, none⟩ = some (.int .i64 c.S) ∧ w'.cell? ⟨q, 3, none⟩ = some (.int .i64 c.O) ∧ w'.cell? ⟨q, 4, none⟩ = some (.int .i64 d) ∧ w'.cell? ⟨q, 5, none⟩ = some (.int .i64 e) ∧ w'.cell? ⟨q, 6, none⟩ = some (.int .u64 c.key)) ∧ (w'.cell? ⟨b, 0, none⟩ = some (.int .i64 c.C) ∧ w'.cell? ⟨b, 1, none⟩ = some (.int .i64 c.S) ∧ w'.cell? ⟨b, 2, none⟩ = some (.int .i64 c.O) ∧ w'.cell? ⟨b, 3, none⟩ = some (.int .i64 d) ∧ w'.cell? ⟨b, 4, none⟩ = some (.int .i64 e) ∧ w'.cell? ⟨b, 5, none⟩ = some (.int .u64 c.key)) ∧ w'.cell? ⟨B, o + p1, none⟩ = some (.int .u64 (x1 : Int))) (first | (refine ⟨⟨?_, ?_, ?_, ?_, ?_, ?_, ?_⟩, ⟨?_, ?_, ?_, ?_, ?_, ?_⟩, ?_⟩ <;> assumption) | go_keep)
          (first | (go_at_call 16; refine (Apart.shelf_ok HC.out.ok HRW.out.drew).mono ?_; rintro r w7 ⟨rfl, h7⟩; rw [HPI1.out]; obtain ⟨y0, y1, y2, y3, y4, y5, y6⟩ := box7 h7.dropL.dropL.skip; obtain ⟨v0, v1, v2, v3, v4, v5⟩ := box6 h7.dropL.dropL.skip.skip.skip; obtain ⟨q0, q1⟩ := HG.out _ h7.dropL.dropL.skip.skip.skip.skip) |
            (go_at_call 65; refine (HCH.out _ h7).mono ?_; rintro r w8 ⟨hv, b1, rfl, KH, h8⟩; obtain ⟨y0, y1, y2, y3, y4, y5, y6⟩ := box7 h8.dropL.dropL.dropL.skip; obtain ⟨v0, v1, v2, v3, v4, v5⟩ := box6 h8.dropL.dropL.dropL.skip.skip.skip; obtain ⟨q0, q1⟩ := HG.out _ h8.dropL.dropL.dropL.skip.skip.skip.skip))
        obtain ⟨A3, c3, hhv, -, -⟩ := KH.out.slice
        obtain ⟨l3, hl3⟩ : ∃ l3, sl.length = l3 := ⟨_, rfl⟩
        rw [hl3] at hhv
        subst hhv
        have h9 := h8.perm (see_perm4 _ _ _ _ _ _ _ _)
        have h10 := kset1 (hv' := .slice A3 l3 c3) h9
        clear y0 y1 y2 y3 y4 y5 y6 v0 v1 v2 v3 v4 v5 q0 q1 hl3 h7 h8
        obtain ⟨⟨z0, z1, z2, z3⟩, ⟨f0, f1, f2, f3⟩⟩ := boxK h9
        obtain ⟨v0, v1, v2, v3, v4, v5⟩ := box6 h10.skip.skip.skip
        go_wp2_with fail
        obtain ⟨wz, hwz⟩ : ∃ wz, w8.setCell ⟨t, 1, none⟩ (.slice A3 l3 c3) = wz := ⟨_, rfl⟩
        rw [hwz] at h10 ⊢
        have H10 := Lib.hid h10
        clear z0 z1 z2 z3 f0 f1 f2 f3 v0 v1 v2 v3 v4 v5 h9 h10 hwz
        obtain ⟨w0, hw0⟩ : ∃ w0 : World, w0 = wr := ⟨_, rfl⟩
        subst hw0
        go_loopw [75] (fun iv wr => ∃ (i : Nat) (Ll : List SlabN) (lv : Value) (b2 : List (Nat × Obj)), iv = .int .i64 i ∧ i ≤ c.S ∧ Hid (Ll.length = i) ∧ Hid (upto (slabP c g) i = some (Ll.map (·.x))) ∧ Hid (SlabsOk Ll) ∧ Hid (SlabsV lv Ll b2) ∧ Own W (b2 ++ (slabBlocks Ll ++ (kBlk t (.slice A0 c.C c0) (.slice A3 l3 c3) lk lv :: (rBlk q B o N k c d e :: (kBlk (b + 1) (.slice none 0 0) (.slice none 0 0) false (.slice none 0 0) :: (chB b c.C c.S c.O d e c.key :: (b1 ++ (b0 ++ (slotBlocks Ls ++ m))))))))) wr) (fun iv _ => c.S - (intOf iv).toNat)
        case atStart => exact ⟨0, [], .slice none 0 0, [], rfl, by omega, rfl, rfl, (fun s hs => by cases hs), SlO.nil _ _ _, H10.out⟩
        case round =>
          clear H10
          obtain ⟨i, Ll, lv, b2, rfl, hi2, HLI2, HUP2, HLO, HLV, hr⟩ := hrel
          obtain ⟨A4, c4, hv4, -, -⟩ := HLV.out.slice
          rw [HLI2.out] at hv4
          subst hv4
          have HLV2 : Hid (SlO true 82 5 (.slice A4 i c4) i (slabCells Ll) b2) := by have := HLV.out; unfold SlabsV at this; rw [HLI2.out] at this; exact this
          by_cases hlt2 : i < c.S
          · have hlti2 : (i : Int) < (c.S : Int) := by omega
            have hsl := rslab_spec hr HC.out ((((((HW.out.more (m' := slotBlocks Ls)).more (m' := b0)).more (m' := b1)).more (m' := [kBlk t (.slice A0 c.C c0) (.slice A3 l3 c3) lk (.slice A4 i c4), rBlk q B o N k c d e, kBlk (b + 1) (.slice none 0 0) (.slice none 0 0) false (.slice none 0 0), chB b c.C c.S c.O d e c.key])).more (m' := slabBlocks Ll)).more (m' := b2)) i hlt2
            obtain ⟨y0, y1, y2, y3, y4, y5, y6⟩ := box7 hr.dropL.dropL.skip
            cases hsp : slabP c g i with
            | none =>
              rw [hsp] at hsl
              have HSL := Lib.hid hsl
              have hnone : upto (slabP c g) c.S = none := upto_none hsp hlt2
              have hk := HK.out
              rw [hnone] at hk
              simp only at hk
              subst hk
              clear hsl hsp hnone
              go_wp2_with fail
              refine HSL.out.mono ?_
              rintro r w9 ⟨rfl, h9⟩
              clear y0 y1 y2 y3 y4 y5 y6
              have h11 := h9.alloc (.cells #[.int .i64 0, .int .i64 0, .bool false, .bool false, .slice none 0 0] 82)
              obtain ⟨⟨z0, z1, z2, z3⟩, ⟨f0, f1, f2, f3⟩⟩ := boxK h11.dropL.dropL.skip.skip
              go_wp2_with fail
              have h12 := kset (sv' := .slice none 0 0) (hv' := .slice none 0 0) (l' := false) (lv' := .slice none 0 0) h11.dropL.dropL.skip.skip
              obtain ⟨⟨e0, e1, e2, e3⟩, -⟩ := boxK h12
              exact bodyPost_ret (v := .tuple #[.agg #[.slice none 0 0, .slice none 0 0, .bool false, .slice none 0 0], .int .i64 150]) (by simp [results, Try.f36, go_sem, e0, e1, e2, e3]) rfl ⟨rfl, h12.skip.skip.dropL.dropL.dropL⟩
            | some x =>
              rw [hsp] at hsl
              have HSL := Lib.hid hsl
              have HUP3 := Lib.hid (upto_step HUP2.out hsp)
              clear hsl hsp
              go_wp2_with fail
              refine HSL.out.mono ?_
              rintro r w9 ⟨lv, lb, rfl, KL, h9⟩
              obtain ⟨A1, c1, hv1, -, -⟩ := KL.out.slice
              obtain ⟨l1, hl1⟩ : ∃ l1, x.first.length = l1 := ⟨_, rfl⟩
              rw [hl1] at hv1
              subst hv1
              clear y0 y1 y2 y3 y4 y5 y6 hl1
              have h11 : Own W (b2 ++ (lb ++ (slabBlocks Ll ++ (kBlk t (.slice A0 c.C c0) (.slice A3 l3 c3) lk (.slice A4 i c4) :: (rBlk q B o N k c d e :: (kBlk (b + 1) (.slice none 0 0) (.slice none 0 0) false (.slice none 0 0) :: (chB b c.C c.S c.O d e c.key :: (b1 ++ (b0 ++ (slotBlocks Ls ++ m)))))))))) w9 := h9.swap
              have h12 := h11.alloc (.cells #[.int .i64 x.counts.inuse, .int .i64 x.counts.objects, .bool x.counts.frozen, .bool x.counts.live, .slice A1 l1 c1] 82)
              have H13 := Lib.hid (h12.alloc (.cells #[.int .i64 x.counts.inuse, .int .i64 x.counts.objects, .bool x.counts.frozen, .bool x.counts.live, .slice A1 l1 c1] 82))
              have hsrc := src_vals (w9.alloc (.cells #[.int .i64 x.counts.inuse, .int .i64 x.counts.objects, .bool x.counts.frozen, .bool x.counts.live, .slice A1 l1 c1] 82)) 82 [.int .i64 x.counts.inuse, .int .i64 x.counts.objects, .bool x.counts.frozen, .bool x.counts.live, .slice A1 l1 c1]
              rw [World.size_alloc] at hsrc
              have HSRC := Lib.hid hsrc
              have hone : ∀ u ∈ ([.int .i64 x.counts.inuse, .int .i64 x.counts.objects, .bool x.counts.frozen, .bool x.counts.live, .slice A1 l1 c1] : List Value), u.oneCell' = true := by
                intro u hu
                simp at hu
                rcases hu with rfl | rfl | rfl | rfl | rfl <;> rfl
              have HONE := Lib.hid hone
              obtain ⟨⟨z0, z1, z2, z3⟩, ⟨f0, f1, f2, f3⟩⟩ := boxK h12.dropL.dropL.dropL
              clear hsrc hone h9 h11 h12
              go_wp2_with (at_builtin; refine app_struct rfl _ _ 38 rfl rfl rfl _ slab_info Try.underlying38 rfl (by omega) (by omega) HLV2.out H13.out HSRC.out HONE.out (by omega) ?_; intro v' w' bs' k1 k2; have K1 := Lib.hid k1; obtain ⟨A9, c9, hv9, -, -⟩ := k1.slice; subst hv9; have K2 := Lib.hid k2; clear z0 z1 z2 z3 f0 f1 f2 f3; obtain ⟨⟨z0, z1, z2, z3⟩, ⟨f0, f1, f2, f3⟩⟩ := boxK k2.dropL.dropL.dropL; clear k1 k2)
              have hst := (kset3 (lv' := .slice A9 (i + 1) c9) (K2.out.perm (see_perm5 _ _ _ _ _)))
              refine ⟨⟨i + 1, Ll ++ [⟨x, .slice A1 l1 c1, lb⟩], .slice A9 (i + 1) c9, bs', by go_num, by omega, ?_, ?_, ?_, ?_, ?_⟩, by simp [intOf]; omega⟩
              · show _ = _
                rw [List.length_append, HLI2.out]
                rfl
              · show _ = _
                rw [List.map_append]
                exact HUP3.out
              · show SlabsOk _
                intro s hs
                rcases List.mem_append.1 hs with hs | hs
                · exact HLO.out s hs
                · rw [List.mem_singleton] at hs
                  subst hs
                  exact KL.out
              · show SlabsV _ _ _
                unfold SlabsV
                rw [List.length_append, HLI2.out, slabCells_append]
                exact K1.out
              · refine hst.perm ?_
                rw [slabBlocks_append]
                exact see_perm6 _ _ _ _ _
          · have hiS : i = c.S := by omega
            subst hiS
            have hlti2 : ¬ (c.S : Int) < (c.S : Int) := by omega
            have hk := HK.out
            rw [HUP2.out] at hk
            simp only at hk
            have HK2 := Lib.hid hk
            have ht2 := hr.dropL.dropL
            obtain ⟨⟨z0, z1, z2, z3⟩, ⟨f0, f1, f2, f3⟩⟩ := boxK ht2
            obtain ⟨⟨g0, g1, g2, g3⟩, ⟨u0, u1, u2, u3⟩⟩ := boxK ht2.skip.skip
            clear hk
            go_wp2_with fail
            have hx := hr.perm (see_perm7 _ _ _ _ _ _)
            have h9 := kset (sv' := .slice A0 c.C c0) (hv' := .slice A3 l3 c3) (l' := lk) (lv' := .slice A4 c.S c4) hx
            obtain ⟨⟨e0, e1, e2, e3⟩, -⟩ := boxK h9
            rw [HK2.out]
            refine bodyPost_ret (v := .tuple #[.agg #[.slice A0 c.C c0, .slice A3 l3 c3, .bool lk, .slice A4 c.S c4], .int .i64 0]) (by simp [results, Try.f36, go_sem, e0, e1, e2, e3]) rfl ?_
            refine ⟨_, b0 ++ (slotBlocks Ls ++ (b1 ++ (b2 ++ slabBlocks Ll))), rfl, ⟨Ls, .slice A0 c.C c0, b0, .slice A3 l3 c3, b1, Ll, .slice A4 c.S c4, b2, rfl, rfl, HSO.out, HSV.out, KH.out, rfl, HLO.out, HLV.out, rfl⟩, ?_⟩
            rw [List.append_assoc, List.append_assoc, List.append_assoc, List.append_assoc]
            exact (h9.skip.sub (see_sub _ _ _ _ _ _)).perm (see_perm8 _ _ _ _ _ _)
end
end Go.Proofs.Ytigakendeghoaaa.See
