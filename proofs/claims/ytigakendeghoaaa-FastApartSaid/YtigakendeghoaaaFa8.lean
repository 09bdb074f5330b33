/-
  Texts of this claim, joined. No condition.
-/
import Derived.Test.YtigakendeghoaaaFa7
import Derived.Test.YtigakendeghoaaaFa6
import Derived.SizedLaws
import Derived.Laws.StructEq
/-
  Contract: a processor's slot (reader.slot). No condition.
-/
namespace Go.Proofs.Ytigakendeghoaaa.See
open Go.RowKit
open chartPlaces (Ok)
attribute [local go_sem ↓] Go.wp_at_zero Go.wp_at_succ
section
variable {W w : World} {M m : List (Nat × Obj)} {B o N k b : Nat} {g : List Nat} {c : Ch} {d e : Int}
/-- what slot answers -/
def SlotPost (W : World) (m : List (Nat × Obj)) (r : Option SlotP) (e : Ending) (w' : World) : Prop := match r with
  | some x => ∃ lv lb pv pb, e = .returned (.tuple #[.agg #[.int .i64 x.slab, lv, .int .u64 x.turn, pv], .bool true]) ∧ Hid (IntsOwn true lv x.list lb) ∧ Hid (IntsOwn true pv x.parts pb) ∧ Own W (lb ++ (pb ++ m)) w'
  | none => e = .returned (.tuple #[.agg #[.int .i64 0, .slice none 0 0, .int .u64 0, .slice none 0 0], .bool false]) ∧ Own W m w'
/-- a slot's block -/
def sBlk (b : Nat) (s : Int) (lv : Value) (t : Int) (pv : Value) : Nat × Obj := (b, .cells #[.int .i64 s, lv, .int .u64 t, pv] 78)
theorem box4 {s t : Int} {lv pv : Value} (h : Own W (sBlk b s lv t pv :: m) w) : (w.cell? ⟨b, 0, none⟩ = some (.int .i64 s) ∧ w.cell? ⟨b, 1, none⟩ = some lv ∧ w.cell? ⟨b, 2, none⟩ = some (.int .u64 t) ∧ w.cell? ⟨b, 3, none⟩ = some pv) ∧ (w.frozen? ⟨b, 0, none⟩ = false ∧ w.frozen? ⟨b, 1, none⟩ = false ∧ w.frozen? ⟨b, 2, none⟩ = false ∧ w.frozen? ⟨b, 3, none⟩ = false) :=
  ⟨⟨h.cell List.mem_cons_self 0, h.cell List.mem_cons_self 1, h.cell List.mem_cons_self 2, h.cell List.mem_cons_self 3⟩, ⟨h.frozen List.mem_cons_self 0, h.frozen List.mem_cons_self 1, h.frozen List.mem_cons_self 2, h.frozen List.mem_cons_self 3⟩⟩
theorem slot_perm {α : Type} (b6 lb : List α) (x y : α) (m : List α) : (b6 ++ (lb ++ (x :: y :: m))).Perm (x :: (y :: (b6 ++ (lb ++ m)))) := by
  have h1 : (b6 ++ (lb ++ (x :: y :: m))).Perm (x :: (b6 ++ (lb ++ (y :: m)))) := by
    rw [← List.append_assoc, ← List.append_assoc]
    exact List.perm_middle
  refine h1.trans (List.Perm.cons x ?_)
  rw [← List.append_assoc, ← List.append_assoc]
  exact List.perm_middle
theorem sset {b : Nat} {s t s' t' : Int} {lv pv lv' pv' : Value} (h : Own W (sBlk b s lv t pv :: m) w) : Own W (sBlk b s' lv' t' pv' :: m) ((((w.setCell ⟨b, 0, none⟩ (.int .i64 s')).setCell ⟨b, 1, none⟩ lv').setCell ⟨b, 2, none⟩ (.int .u64 t')).setCell ⟨b, 3, none⟩ pv') := by
  have h1 := (((h.set 0 (.int .i64 s')).set 1 lv').set 2 (.int .u64 t')).set 3 pv'
  exact h1
theorem sset1 {b : Nat} {s t : Int} {lv pv lv' : Value} (h : Own W (sBlk b s lv t pv :: m) w) : Own W (sBlk b s lv' t pv :: m) (w.setCell ⟨b, 1, none⟩ lv') := h.set 1 lv'
theorem sset3 {b : Nat} {s t : Int} {lv pv pv' : Value} (h : Own W (sBlk b s lv t pv :: m) w) : Own W (sBlk b s lv t pv' :: m) (w.setCell ⟨b, 3, none⟩ pv') := h.set 3 pv'
set_option maxRecDepth 100000 in
set_option maxHeartbeats 4000000 in
theorem rslot_spec (h : Own W m w) (hc : COk c d e) (hw : WOk W m B o N k g c) (i : Nat) (hi : i < c.C) :
    Calls Try.prog 64 #[rV B o N k c d e, .int .i64 i] w (SlotPost W m (slotP c g i)) := by
  obtain ⟨n1, n2, n3, n4, n5, n6⟩ := hc.nums
  have h1 := (h.new (.cells #[.slice (some ⟨B, o, none⟩) N k, .int .i64 c.C, .int .i64 c.S, .int .i64 c.O, .int .i64 d, .int .i64 e, .int .u64 c.key] 84)).new (.cells #[.int .i64 0, .slice none 0 0, .int .u64 0, .slice none 0 0] 78)
  obtain ⟨b, hb⟩ : ∃ b, w.heap.size = b := ⟨_, rfl⟩
  simp only [World.size_alloc] at h1
  rw [hb] at h1
  have h1 : Own W (sBlk (b + 1) 0 (.slice none 0 0) 0 (.slice none 0 0) :: (rBlk b B o N k c d e :: m)) _ := h1
  obtain ⟨y0, y1, y2, y3, y4, y5, y6⟩ := box7 h1.skip
  have hN := hw.n
  unfold Ch.words at hN
  have hii : 0 ≤ (i : Int) ∧ (i : Int) < (c.C : Int) := by omega
  obtain ⟨p, hp⟩ : ∃ p : Nat, 4 * i = p := ⟨_, rfl⟩
  have hpi : 4 * (i : Int) = (p : Int) := by omega
  have HPI := Lib.hid hpi
  have hpN : p + 2 < N := by omega
  have hpb : p ≤ 32 := by omega
  have hp0 : (0 : Int) ≤ (p : Int) := by omega
  have hp1 : (p : Int) < (N : Int) := by omega
  have hp2 : (p : Int) + 1 < (N : Int) := by omega
  have hp3 : (p : Int) + 2 < (N : Int) := by omega
  obtain ⟨x0, hx0⟩ : ∃ x, g[p]? = some x := ⟨_, List.getElem?_eq_getElem (by rw [hw.len]; omega)⟩
  obtain ⟨x1, hx1⟩ : ∃ x, g[p + 1]? = some x := ⟨_, List.getElem?_eq_getElem (by rw [hw.len]; omega)⟩
  obtain ⟨p2, hpp2⟩ : ∃ p2 : Nat, p + 2 = p2 := ⟨_, rfl⟩
  have hp6 : (0 : Int) ≤ (p2 : Int) := by omega
  have hp7 : (p2 : Int) < (N : Int) := by omega
  have hw2 : IntKind.i64.wrap ((p : Int) + 2) = (p2 : Int) := by rw [IntWalk.i64_in] <;> omega
  obtain ⟨x2, hx2⟩ : ∃ x, g[p2]? = some x := ⟨_, List.getElem?_eq_getElem (by rw [hw.len]; omega)⟩
  have a0 : at_ g (4 * i) = x0 := by unfold at_; rw [hp, List.getD_eq_getElem?_getD, hx0]; rfl
  have a1 : at_ g (4 * i + 1) = x1 := by unfold at_; rw [hp, List.getD_eq_getElem?_getD, hx1]; rfl
  have a2 : at_ g (4 * i + 2) = x2 := by unfold at_; rw [hp, hpp2, List.getD_eq_getElem?_getD, hx2]; rfl
  have hBlt : B < w.heap.size := World.block_lt_of_cell? w _ (hw.rd w h p x0 hx0)
  rw [hb] at hBlt
  have hBn1 : B ≠ b + 1 := by omega
  have hBn2 : b + 1 ≠ B := by omega
  have hbn1 : b ≠ b + 1 := by omega
  have hbn2 : b + 1 ≠ b := by omega
  have hp4 : (0 : Int) ≤ (p : Int) + 2 := by omega
  have hp5 : (0 : Int) ≤ (p : Int) + 1 := by omega
  have hho := fun w => headOf_spec x0 (hw.w64 x0 (List.mem_of_getElem? hx0)) w
  have HX2 : Hid (x2 < 18446744073709551616) := hw.w64 x2 (List.mem_of_getElem? hx2)
  have HG : Hid (∀ ws, Own W m ws → ws.cell? ⟨B, o + p, none⟩ = some (.int .u64 (x0 : Int)) ∧ ws.cell? ⟨B, o + (p + 1), none⟩ = some (.int .u64 (x1 : Int)) ∧ ws.cell? ⟨B, o + p2, none⟩ = some (.int .u64 (x2 : Int))) := fun ws hws => ⟨hw.rd ws hws p x0 hx0, hw.rd ws hws (p + 1) x1 hx1, hw.rd ws hws p2 x2 hx2⟩
  unfold slotP
  rw [a0, a1, a2]
  unfold headV at hho
  have HC := Lib.hid hc
  have HW := Lib.hid hw
  have HI := Lib.hid hii
  have H1 := Lib.hid h1
  clear hpp2 hp3 hN hp hpi hx0 hx1 hx2 a0 a1 a2 hw hc hii h1 h
  obtain ⟨q0, q1, q2⟩ := HG.out _ H1.out.skip.skip
  cases hh : headOf x0 with
  | none =>
    rw [hh] at hho
    have HH := Lib.hid hho
    clear hh hho
    unfold rV
    go_enter Try.func64, Try.ntmps64
    go_wp2_with fail
    refine (Apart.head_ok HC.out.ok HI.out H1.out).mono ?_
    rintro r w2 ⟨rfl, h2⟩
    rw [HPI.out]
    clear y0 y1 y2 y3 y4 y5 y6 q0 q1 q2
    obtain ⟨y0, y1, y2, y3, y4, y5, y6⟩ := box7 h2.skip
    obtain ⟨q0, q1, q2⟩ := HG.out _ h2.skip.skip
    obtain ⟨⟨z0, z1, z2, z3⟩, ⟨f0, f1, f2, f3⟩⟩ := box4 h2
-- BODY
    go_wp2_with (go_at_call 80; refine (HH.out _).mono ?_; rintro r w3 ⟨rfl, rfl⟩)
    have h9 := sset (s' := 0) (lv' := .slice none 0 0) (t' := 0) (pv' := .slice none 0 0) h2
    obtain ⟨⟨e0, e1, e2, e3⟩, -⟩ := box4 h9
    exact bodyPost_ret (v := .tuple #[.agg #[.int .i64 0, .slice none 0 0, .int .u64 0, .slice none 0 0], .bool false]) (by simp [results, Try.f64, go_sem, e0, e1, e2, e3]) rfl ⟨rfl, h9.skip.skip⟩
  | some v =>
    obtain ⟨s, ob⟩ := v
    rw [hh] at hho
    have hge := headOf_ge hh
    simp only at hho ⊢
    have HH := Lib.hid hho
    clear hh hho
    by_cases hsS : (c.S : Int) ≤ s
    · have hlp : listP c g s ob = none := by
        unfold listP
        rw [if_neg (by omega)]
      rw [if_neg (by omega), hlp]
      simp only
      clear hlp hge
      unfold rV
      go_enter Try.func64, Try.ntmps64
      go_wp2_with fail
      refine (Apart.head_ok HC.out.ok HI.out H1.out).mono ?_
      rintro r w2 ⟨rfl, h2⟩
      rw [HPI.out]
      clear y0 y1 y2 y3 y4 y5 y6 q0 q1 q2
      obtain ⟨y0, y1, y2, y3, y4, y5, y6⟩ := box7 h2.skip
      obtain ⟨q0, q1, q2⟩ := HG.out _ h2.skip.skip
      obtain ⟨⟨z0, z1, z2, z3⟩, ⟨f0, f1, f2, f3⟩⟩ := box4 h2
      go_wp2_with (go_at_call 80; refine (HH.out _).mono ?_; rintro r w3 ⟨rfl, rfl⟩)
      have h9 := sset (s' := 0) (lv' := .slice none 0 0) (t' := 0) (pv' := .slice none 0 0) h2
      obtain ⟨⟨e0, e1, e2, e3⟩, -⟩ := box4 h9
      exact bodyPost_ret (v := .tuple #[.agg #[.int .i64 0, .slice none 0 0, .int .u64 0, .slice none 0 0], .bool false]) (by simp [results, Try.f64, go_sem, e0, e1, e2, e3]) rfl ⟨rfl, h9.skip.skip⟩
    · have hsn : ¬ (c.S : Int) ≤ s := hsS
      by_cases hm1 : s = -1
      · subst hm1
        rw [if_pos rfl]
        simp only
        clear hge
        cases hpp : partsP c g x2 with
        | none =>
          simp only
          have HPP := Lib.hid hpp
          clear hpp
          unfold rV
          go_enter Try.func64, Try.ntmps64
          go_wp2_with fail
          refine (Apart.head_ok HC.out.ok HI.out H1.out).mono ?_
          rintro r w2 ⟨rfl, h2⟩
          rw [HPI.out]
          clear y0 y1 y2 y3 y4 y5 y6 q0 q1 q2
          obtain ⟨y0, y1, y2, y3, y4, y5, y6⟩ := box7 h2.skip
          obtain ⟨q0, q1, q2⟩ := HG.out _ h2.skip.skip
          obtain ⟨⟨z0, z1, z2, z3⟩, ⟨f0, f1, f2, f3⟩⟩ := box4 h2
          go_wp2_with (go_at_call 80; refine (HH.out _).mono ?_; rintro r w3 ⟨rfl, rfl⟩)
          have h5 := sset (s' := -1) (lv' := .slice none 0 0) (t' := (x1 : Int)) (pv' := .slice none 0 0) h2
          obtain ⟨w5, hw5⟩ : ∃ w5, (((w2.setCell ⟨b + 1, 0, none⟩ (.int .i64 (-1))).setCell ⟨b + 1, 1, none⟩ (.slice none 0 0)).setCell ⟨b + 1, 2, none⟩ (.int .u64 (x1 : Int))).setCell ⟨b + 1, 3, none⟩ (.slice none 0 0) = w5 := ⟨_, rfl⟩
          rw [hw5] at h5 ⊢
          have H5 : Hid (Own W (([] : List (Nat × Obj)) ++ (sBlk (b + 1) (-1) (.slice none 0 0) x1 (.slice none 0 0) :: (rBlk b B o N k c d e :: m))) w5) := h5
          clear h5 hw5 y0 y1 y2 y3 y4 y5 y6 q0 q1 q2 z0 z1 z2 z3 f0 f1 f2 f3 h2
          have hch := fun ws (hws : Own W ([] ++ (sBlk (b + 1) (-1) (.slice none 0 0) x1 (.slice none 0 0) :: (rBlk b B o N k c d e :: m))) ws) => rchain_p hws HC.out (((HW.out.more (m' := [rBlk b B o N k c d e])).more (m' := [sBlk (b + 1) (-1) (.slice none 0 0) x1 (.slice none 0 0)])).more (m' := [])) x2 HX2.out
          have hpe : chain ofP (nextAt c g) c.S (c.S + 1) [] x2 = partsP c g x2 := rfl
          rw [hpe, HPP.out] at hch
          have h5 := H5.out
          have hw5 := h5.dropL
          obtain ⟨y0, y1, y2, y3, y4, y5, y6⟩ := box7 hw5.skip
          obtain ⟨q0, q1, q2⟩ := HG.out _ hw5.skip.skip
          obtain ⟨⟨z0, z1, z2, z3⟩, ⟨f0, f1, f2, f3⟩⟩ := box4 hw5
          have HCH := Lib.hid hch
          clear hpe hch h5 hw5
          go_region_held3 (fun w' => w'.cell? ⟨b, 0, none⟩ = some (.slice (some ⟨B, o, none⟩) N k) ∧ w'.cell? ⟨b, 1, none⟩ = some (.int .i64 c.C) ∧ w'.cell? ⟨b, 2, none⟩ = some (.int .i64 c.S) ∧ w'.cell? ⟨b, 3, none⟩ = some (.int .i64 c.O) ∧ w'.cell? ⟨b, 4, none⟩ = some (.int .i64 d) ∧ w'.cell? ⟨b, 5, none⟩ = some (.int .i64 e) ∧ w'.cell? ⟨b, 6, none⟩ = some (.int .u64 c.key) ∧ w'.cell? ⟨B, o + p2, none⟩ = some (.int .u64 (x2 : Int))) (first | (refine ⟨?_, ?_, ?_, ?_, ?_, ?_, ?_, ?_⟩ <;> assumption) | go_keep)
            (first | (go_at_call 65; refine (HCH.out _ H5.out.drew).mono ?_; rintro r w6 ⟨rfl, h6⟩; have h7 := h6.dropL; obtain ⟨y0, y1, y2, y3, y4, y5, y6⟩ := box7 h7.skip; obtain ⟨q0, q1, q2⟩ := HG.out _ h7.skip.skip; obtain ⟨⟨z0, z1, z2, z3⟩, ⟨f0, f1, f2, f3⟩⟩ := box4 h7))
          have h8 := sset3 (pv' := .slice none 0 0) h7
          obtain ⟨w8, hw8⟩ : ∃ w8, w6.setCell ⟨b + 1, 3, none⟩ (.slice none 0 0) = w8 := ⟨_, rfl⟩
          rw [hw8] at h8 ⊢
          clear y0 y1 y2 y3 y4 y5 y6 q0 q1 q2 z0 z1 z2 z3 f0 f1 f2 f3 hw8
          obtain ⟨⟨z0, z1, z2, z3⟩, ⟨f0, f1, f2, f3⟩⟩ := box4 h8
          go_wp2_with fail
          have h9 := sset (s' := 0) (lv' := .slice none 0 0) (t' := 0) (pv' := .slice none 0 0) h8
          obtain ⟨⟨e0, e1, e2, e3⟩, -⟩ := box4 h9
          exact bodyPost_ret (v := .tuple #[.agg #[.int .i64 0, .slice none 0 0, .int .u64 0, .slice none 0 0], .bool false]) (by simp [results, Try.f64, go_sem, e0, e1, e2, e3]) rfl ⟨rfl, h9.skip.skip⟩
        | some l2 =>
          simp only
          have HPP := Lib.hid hpp
          clear hpp
          unfold rV
          go_enter Try.func64, Try.ntmps64
          go_wp2_with fail
          refine (Apart.head_ok HC.out.ok HI.out H1.out).mono ?_
          rintro r w2 ⟨rfl, h2⟩
          rw [HPI.out]
          clear y0 y1 y2 y3 y4 y5 y6 q0 q1 q2
          obtain ⟨y0, y1, y2, y3, y4, y5, y6⟩ := box7 h2.skip
          obtain ⟨q0, q1, q2⟩ := HG.out _ h2.skip.skip
          obtain ⟨⟨z0, z1, z2, z3⟩, ⟨f0, f1, f2, f3⟩⟩ := box4 h2
          go_wp2_with (go_at_call 80; refine (HH.out _).mono ?_; rintro r w3 ⟨rfl, rfl⟩)
          have h5 := sset (s' := -1) (lv' := .slice none 0 0) (t' := (x1 : Int)) (pv' := .slice none 0 0) h2
          obtain ⟨w5, hw5⟩ : ∃ w5, (((w2.setCell ⟨b + 1, 0, none⟩ (.int .i64 (-1))).setCell ⟨b + 1, 1, none⟩ (.slice none 0 0)).setCell ⟨b + 1, 2, none⟩ (.int .u64 (x1 : Int))).setCell ⟨b + 1, 3, none⟩ (.slice none 0 0) = w5 := ⟨_, rfl⟩
          rw [hw5] at h5 ⊢
          have H5 : Hid (Own W (([] : List (Nat × Obj)) ++ (sBlk (b + 1) (-1) (.slice none 0 0) x1 (.slice none 0 0) :: (rBlk b B o N k c d e :: m))) w5) := h5
          clear h5 hw5 y0 y1 y2 y3 y4 y5 y6 q0 q1 q2 z0 z1 z2 z3 f0 f1 f2 f3 h2
          have hch := fun ws (hws : Own W ([] ++ (sBlk (b + 1) (-1) (.slice none 0 0) x1 (.slice none 0 0) :: (rBlk b B o N k c d e :: m))) ws) => rchain_p hws HC.out (((HW.out.more (m' := [rBlk b B o N k c d e])).more (m' := [sBlk (b + 1) (-1) (.slice none 0 0) x1 (.slice none 0 0)])).more (m' := [])) x2 HX2.out
          have hpe : chain ofP (nextAt c g) c.S (c.S + 1) [] x2 = partsP c g x2 := rfl
          rw [hpe, HPP.out] at hch
          have h5 := H5.out
          have hw5 := h5.dropL
          obtain ⟨y0, y1, y2, y3, y4, y5, y6⟩ := box7 hw5.skip
          obtain ⟨q0, q1, q2⟩ := HG.out _ hw5.skip.skip
          obtain ⟨⟨z0, z1, z2, z3⟩, ⟨f0, f1, f2, f3⟩⟩ := box4 hw5
          have HCH := Lib.hid hch
          clear hpe hch h5 hw5
          go_region_held3 (fun w' => w'.cell? ⟨b, 0, none⟩ = some (.slice (some ⟨B, o, none⟩) N k) ∧ w'.cell? ⟨b, 1, none⟩ = some (.int .i64 c.C) ∧ w'.cell? ⟨b, 2, none⟩ = some (.int .i64 c.S) ∧ w'.cell? ⟨b, 3, none⟩ = some (.int .i64 c.O) ∧ w'.cell? ⟨b, 4, none⟩ = some (.int .i64 d) ∧ w'.cell? ⟨b, 5, none⟩ = some (.int .i64 e) ∧ w'.cell? ⟨b, 6, none⟩ = some (.int .u64 c.key) ∧ w'.cell? ⟨B, o + p2, none⟩ = some (.int .u64 (x2 : Int))) (first | (refine ⟨?_, ?_, ?_, ?_, ?_, ?_, ?_, ?_⟩ <;> assumption) | go_keep)
            (first | (go_at_call 65; refine (HCH.out _ H5.out.drew).mono ?_; rintro r w6 ⟨v6, b6, rfl, K6, h6⟩; obtain ⟨A6, c6, hv6, -, -⟩ := K6.out.slice; subst hv6; have h7 := h6.dropL.dropL; obtain ⟨y0, y1, y2, y3, y4, y5, y6⟩ := box7 h7.skip; obtain ⟨q0, q1, q2⟩ := HG.out _ h7.skip.skip; obtain ⟨⟨z0, z1, z2, z3⟩, ⟨f0, f1, f2, f3⟩⟩ := box4 h7))
          have hq : Own W (sBlk (b + 1) (-1) (.slice none 0 0) x1 (.slice none 0 0) :: (rBlk b B o N k c d e :: (b6 ++ ([] ++ m)))) w6 := h6.perm (slot_perm _ _ _ _ _)
          have h8 := sset3 (pv' := .slice A6 l2.length c6) hq
          obtain ⟨w8, hw8⟩ : ∃ w8, w6.setCell ⟨b + 1, 3, none⟩ (.slice A6 l2.length c6) = w8 := ⟨_, rfl⟩
          rw [hw8] at h8 ⊢
          clear y0 y1 y2 y3 y4 y5 y6 q0 q1 q2 z0 z1 z2 z3 f0 f1 f2 f3 hw8
          obtain ⟨⟨z0, z1, z2, z3⟩, ⟨f0, f1, f2, f3⟩⟩ := box4 h8
          go_wp2_with fail
          have h9 := sset (s' := (-1)) (lv' := (.slice none 0 0)) (t' := (x1 : Int)) (pv' := .slice A6 l2.length c6) h8
          obtain ⟨⟨e0, e1, e2, e3⟩, -⟩ := box4 h9
          exact bodyPost_ret (v := .tuple #[.agg #[.int .i64 (-1), (.slice none 0 0), .int .u64 x1, .slice A6 l2.length c6], .bool true]) (by simp [results, Try.f64, go_sem, e0, e1, e2, e3]) rfl ⟨(.slice none 0 0), [], _, b6, rfl, SlO.nil _ _ _, K6, (h9.skip.skip).swap⟩
      · rw [if_neg hm1]
        have hsb : (s == -1) = false := beq_eq_false_iff_ne.2 hm1
        obtain ⟨j, rfl⟩ : ∃ j : Nat, s = j := ⟨s.toNat, by omega⟩
        have hjS : j < c.S := by omega
        have hob : -1 ≤ ob := by omega
        have hrl := fun ws (hws : Own W (sBlk (b + 1) j (.slice none 0 0) x1 (.slice none 0 0) :: (rBlk b B o N k c d e :: m)) ws) => rlist_spec hws HC.out ((HW.out.more (m' := [rBlk b B o N k c d e])).more (m' := [sBlk (b + 1) j (.slice none 0 0) x1 (.slice none 0 0)])) j hjS ob hob
        clear hge
        cases hl : listP c g j ob with
        | none =>
          rw [hl] at hrl
          have HRL := Lib.hid hrl
          simp only
          clear hl hrl
          unfold rV
          go_enter Try.func64, Try.ntmps64
          go_wp2_with fail
          refine (Apart.head_ok HC.out.ok HI.out H1.out).mono ?_
          rintro r w2 ⟨rfl, h2⟩
          rw [HPI.out]
          clear y0 y1 y2 y3 y4 y5 y6 q0 q1 q2
          obtain ⟨y0, y1, y2, y3, y4, y5, y6⟩ := box7 h2.skip
          obtain ⟨q0, q1, q2⟩ := HG.out _ h2.skip.skip
          obtain ⟨⟨z0, z1, z2, z3⟩, ⟨f0, f1, f2, f3⟩⟩ := box4 h2
          go_wp2_with (go_at_call 80; refine (HH.out _).mono ?_; rintro r w3 ⟨rfl, rfl⟩)
          have h5 := sset (s' := (j : Int)) (lv' := .slice none 0 0) (t' := (x1 : Int)) (pv' := .slice none 0 0) h2
          refine (HRL.out _ h5).mono ?_
          rintro r w6 ⟨rfl, h6⟩
          clear y0 y1 y2 y3 y4 y5 y6 q0 q1 q2 z0 z1 z2 z3 f0 f1 f2 f3 h2
          obtain ⟨⟨z0, z1, z2, z3⟩, ⟨f0, f1, f2, f3⟩⟩ := box4 h6
          go_wp2_with fail
          have h8 := sset1 (lv' := .slice none 0 0) h6
          have h9 := sset (s' := 0) (lv' := .slice none 0 0) (t' := 0) (pv' := .slice none 0 0) h8
          obtain ⟨⟨e0, e1, e2, e3⟩, -⟩ := box4 h9
          exact bodyPost_ret (v := .tuple #[.agg #[.int .i64 0, .slice none 0 0, .int .u64 0, .slice none 0 0], .bool false]) (by simp [results, Try.f64, go_sem, e0, e1, e2, e3]) rfl ⟨rfl, h9.skip.skip⟩
        | some l1 =>
          rw [hl] at hrl
          have HRL := Lib.hid hrl
          simp only
          clear hl hrl
          cases hpp : partsP c g x2 with
          | none =>
            simp only
            have HPP := Lib.hid hpp
            clear hpp
            unfold rV
            go_enter Try.func64, Try.ntmps64
            go_wp2_with fail
            refine (Apart.head_ok HC.out.ok HI.out H1.out).mono ?_
            rintro r w2 ⟨rfl, h2⟩
            rw [HPI.out]
            clear y0 y1 y2 y3 y4 y5 y6 q0 q1 q2
            obtain ⟨y0, y1, y2, y3, y4, y5, y6⟩ := box7 h2.skip
            obtain ⟨q0, q1, q2⟩ := HG.out _ h2.skip.skip
            obtain ⟨⟨z0, z1, z2, z3⟩, ⟨f0, f1, f2, f3⟩⟩ := box4 h2
            go_wp2_with (go_at_call 80; refine (HH.out _).mono ?_; rintro r w3 ⟨rfl, rfl⟩)
            have h5 := sset (s' := (j : Int)) (lv' := .slice none 0 0) (t' := (x1 : Int)) (pv' := .slice none 0 0) h2
            refine (HRL.out _ h5).mono ?_
            rintro r w6 ⟨v7, b7, rfl, K7, h6⟩
            obtain ⟨A7, c7, hv7, -, -⟩ := K7.out.slice
            subst hv7
            clear y0 y1 y2 y3 y4 y5 y6 q0 q1 q2 z0 z1 z2 z3 f0 f1 f2 f3 h2
            have h7 : Own W (sBlk (b + 1) j (.slice none 0 0) x1 (.slice none 0 0) :: (b7 ++ (rBlk b B o N k c d e :: m))) w6 := h6.perm List.perm_middle
            obtain ⟨⟨z0, z1, z2, z3⟩, ⟨f0, f1, f2, f3⟩⟩ := box4 h7
            have h8 := sset1 (lv' := .slice A7 l1.length c7) h7
            obtain ⟨w5, hw5⟩ : ∃ w5, w6.setCell ⟨b + 1, 1, none⟩ (.slice A7 l1.length c7) = w5 := ⟨_, rfl⟩
            have H5 : Hid (Own W (b7 ++ (sBlk (b + 1) j (.slice A7 l1.length c7) x1 (.slice none 0 0) :: (rBlk b B o N k c d e :: m))) w5) := by rw [hw5] at h8; exact h8.perm List.perm_middle.symm
            go_wp2_with fail
            clear h6 h7 h8 hw5 z0 z1 z2 z3 f0 f1 f2 f3
            have hch := fun ws (hws : Own W (b7 ++ (sBlk (b + 1) (j) (.slice A7 l1.length c7) x1 (.slice none 0 0) :: (rBlk b B o N k c d e :: m))) ws) => rchain_p hws HC.out (((HW.out.more (m' := [rBlk b B o N k c d e])).more (m' := [sBlk (b + 1) (j) (.slice A7 l1.length c7) x1 (.slice none 0 0)])).more (m' := b7)) x2 HX2.out
            have hpe : chain ofP (nextAt c g) c.S (c.S + 1) [] x2 = partsP c g x2 := rfl
            rw [hpe, HPP.out] at hch
            have h5 := H5.out
            have hw5 := h5.dropL
            obtain ⟨y0, y1, y2, y3, y4, y5, y6⟩ := box7 hw5.skip
            obtain ⟨q0, q1, q2⟩ := HG.out _ hw5.skip.skip
            obtain ⟨⟨z0, z1, z2, z3⟩, ⟨f0, f1, f2, f3⟩⟩ := box4 hw5
            have HCH := Lib.hid hch
            clear hpe hch h5 hw5
            go_region_held3 (fun w' => w'.cell? ⟨b, 0, none⟩ = some (.slice (some ⟨B, o, none⟩) N k) ∧ w'.cell? ⟨b, 1, none⟩ = some (.int .i64 c.C) ∧ w'.cell? ⟨b, 2, none⟩ = some (.int .i64 c.S) ∧ w'.cell? ⟨b, 3, none⟩ = some (.int .i64 c.O) ∧ w'.cell? ⟨b, 4, none⟩ = some (.int .i64 d) ∧ w'.cell? ⟨b, 5, none⟩ = some (.int .i64 e) ∧ w'.cell? ⟨b, 6, none⟩ = some (.int .u64 c.key) ∧ w'.cell? ⟨B, o + p2, none⟩ = some (.int .u64 (x2 : Int))) (first | (refine ⟨?_, ?_, ?_, ?_, ?_, ?_, ?_, ?_⟩ <;> assumption) | go_keep)
              (first | (go_at_call 65; refine (HCH.out _ H5.out.drew).mono ?_; rintro r w6 ⟨rfl, h6⟩; have h7 := h6.dropL; obtain ⟨y0, y1, y2, y3, y4, y5, y6⟩ := box7 h7.skip; obtain ⟨q0, q1, q2⟩ := HG.out _ h7.skip.skip; obtain ⟨⟨z0, z1, z2, z3⟩, ⟨f0, f1, f2, f3⟩⟩ := box4 h7))
            have h8 := sset3 (pv' := .slice none 0 0) h7
            obtain ⟨w8, hw8⟩ : ∃ w8, w6.setCell ⟨b + 1, 3, none⟩ (.slice none 0 0) = w8 := ⟨_, rfl⟩
            rw [hw8] at h8 ⊢
            clear y0 y1 y2 y3 y4 y5 y6 q0 q1 q2 z0 z1 z2 z3 f0 f1 f2 f3 hw8
            obtain ⟨⟨z0, z1, z2, z3⟩, ⟨f0, f1, f2, f3⟩⟩ := box4 h8
            go_wp2_with fail
            have h9 := sset (s' := 0) (lv' := .slice none 0 0) (t' := 0) (pv' := .slice none 0 0) h8
            obtain ⟨⟨e0, e1, e2, e3⟩, -⟩ := box4 h9
            exact bodyPost_ret (v := .tuple #[.agg #[.int .i64 0, .slice none 0 0, .int .u64 0, .slice none 0 0], .bool false]) (by simp [results, Try.f64, go_sem, e0, e1, e2, e3]) rfl ⟨rfl, h9.skip.skip⟩
          | some l2 =>
            simp only
            have HPP := Lib.hid hpp
            clear hpp
            unfold rV
            go_enter Try.func64, Try.ntmps64
            go_wp2_with fail
            refine (Apart.head_ok HC.out.ok HI.out H1.out).mono ?_
            rintro r w2 ⟨rfl, h2⟩
            rw [HPI.out]
            clear y0 y1 y2 y3 y4 y5 y6 q0 q1 q2
            obtain ⟨y0, y1, y2, y3, y4, y5, y6⟩ := box7 h2.skip
            obtain ⟨q0, q1, q2⟩ := HG.out _ h2.skip.skip
            obtain ⟨⟨z0, z1, z2, z3⟩, ⟨f0, f1, f2, f3⟩⟩ := box4 h2
            go_wp2_with (go_at_call 80; refine (HH.out _).mono ?_; rintro r w3 ⟨rfl, rfl⟩)
            have h5 := sset (s' := (j : Int)) (lv' := .slice none 0 0) (t' := (x1 : Int)) (pv' := .slice none 0 0) h2
            refine (HRL.out _ h5).mono ?_
            rintro r w6 ⟨v7, b7, rfl, K7, h6⟩
            obtain ⟨A7, c7, hv7, -, -⟩ := K7.out.slice
            subst hv7
            clear y0 y1 y2 y3 y4 y5 y6 q0 q1 q2 z0 z1 z2 z3 f0 f1 f2 f3 h2
            have h7 : Own W (sBlk (b + 1) j (.slice none 0 0) x1 (.slice none 0 0) :: (b7 ++ (rBlk b B o N k c d e :: m))) w6 := h6.perm List.perm_middle
            obtain ⟨⟨z0, z1, z2, z3⟩, ⟨f0, f1, f2, f3⟩⟩ := box4 h7
            have h8 := sset1 (lv' := .slice A7 l1.length c7) h7
            obtain ⟨w5, hw5⟩ : ∃ w5, w6.setCell ⟨b + 1, 1, none⟩ (.slice A7 l1.length c7) = w5 := ⟨_, rfl⟩
            have H5 : Hid (Own W (b7 ++ (sBlk (b + 1) j (.slice A7 l1.length c7) x1 (.slice none 0 0) :: (rBlk b B o N k c d e :: m))) w5) := by rw [hw5] at h8; exact h8.perm List.perm_middle.symm
            go_wp2_with fail
            clear h6 h7 h8 hw5 z0 z1 z2 z3 f0 f1 f2 f3
            have hch := fun ws (hws : Own W (b7 ++ (sBlk (b + 1) (j) (.slice A7 l1.length c7) x1 (.slice none 0 0) :: (rBlk b B o N k c d e :: m))) ws) => rchain_p hws HC.out (((HW.out.more (m' := [rBlk b B o N k c d e])).more (m' := [sBlk (b + 1) (j) (.slice A7 l1.length c7) x1 (.slice none 0 0)])).more (m' := b7)) x2 HX2.out
            have hpe : chain ofP (nextAt c g) c.S (c.S + 1) [] x2 = partsP c g x2 := rfl
            rw [hpe, HPP.out] at hch
            have h5 := H5.out
            have hw5 := h5.dropL
            obtain ⟨y0, y1, y2, y3, y4, y5, y6⟩ := box7 hw5.skip
            obtain ⟨q0, q1, q2⟩ := HG.out _ hw5.skip.skip
            obtain ⟨⟨z0, z1, z2, z3⟩, ⟨f0, f1, f2, f3⟩⟩ := box4 hw5
            have HCH := Lib.hid hch
            clear hpe hch h5 hw5
            go_region_held3 (fun w' => w'.cell? ⟨b, 0, none⟩ = some (.slice (some ⟨B, o, none⟩) N k) ∧ w'.cell? ⟨b, 1, none⟩ = some (.int .i64 c.C) ∧ w'.cell? ⟨b, 2, none⟩ = some (.int .i64 c.S) ∧ w'.cell? ⟨b, 3, none⟩ = some (.int .i64 c.O) ∧ w'.cell? ⟨b, 4, none⟩ = some (.int .i64 d) ∧ w'.cell? ⟨b, 5, none⟩ = some (.int .i64 e) ∧ w'.cell? ⟨b, 6, none⟩ = some (.int .u64 c.key) ∧ w'.cell? ⟨B, o + p2, none⟩ = some (.int .u64 (x2 : Int))) (first | (refine ⟨?_, ?_, ?_, ?_, ?_, ?_, ?_, ?_⟩ <;> assumption) | go_keep)
              (first | (go_at_call 65; refine (HCH.out _ H5.out.drew).mono ?_; rintro r w6 ⟨v6, b6, rfl, K6, h6⟩; obtain ⟨A6, c6, hv6, -, -⟩ := K6.out.slice; subst hv6; have h7 := h6.dropL.dropL; obtain ⟨y0, y1, y2, y3, y4, y5, y6⟩ := box7 h7.skip; obtain ⟨q0, q1, q2⟩ := HG.out _ h7.skip.skip; obtain ⟨⟨z0, z1, z2, z3⟩, ⟨f0, f1, f2, f3⟩⟩ := box4 h7))
            have hq : Own W (sBlk (b + 1) (j) (.slice A7 l1.length c7) x1 (.slice none 0 0) :: (rBlk b B o N k c d e :: (b6 ++ (b7 ++ m)))) w6 := h6.perm (slot_perm _ _ _ _ _)
            have h8 := sset3 (pv' := .slice A6 l2.length c6) hq
            obtain ⟨w8, hw8⟩ : ∃ w8, w6.setCell ⟨b + 1, 3, none⟩ (.slice A6 l2.length c6) = w8 := ⟨_, rfl⟩
            rw [hw8] at h8 ⊢
            clear y0 y1 y2 y3 y4 y5 y6 q0 q1 q2 z0 z1 z2 z3 f0 f1 f2 f3 hw8
            obtain ⟨⟨z0, z1, z2, z3⟩, ⟨f0, f1, f2, f3⟩⟩ := box4 h8
            go_wp2_with fail
            have h9 := sset (s' := (j)) (lv' := (.slice A7 l1.length c7)) (t' := (x1 : Int)) (pv' := .slice A6 l2.length c6) h8
            obtain ⟨⟨e0, e1, e2, e3⟩, -⟩ := box4 h9
            exact bodyPost_ret (v := .tuple #[.agg #[.int .i64 (j), (.slice A7 l1.length c7), .int .u64 x1, .slice A6 l2.length c6], .bool true]) (by simp [results, Try.f64, go_sem, e0, e1, e2, e3]) rfl ⟨(.slice A7 l1.length c7), b7, _, b6, rfl, K7, K6, (h9.skip.skip).swap⟩
-- BODYEND
end
end Go.Proofs.Ytigakendeghoaaa.See

/-
  Contracts: a slab's numbers in a word (package count). No condition.
-/
namespace Go.Proofs.Ytigakendeghoaaa.See
open Go.RowKit
attribute [local go_sem ↓] Go.wp_at_zero Go.wp_at_succ
def mayB (a b : Int) (f l : Bool) : Bool := decide ((l = true ∧ 1 ≤ b ∧ b ≤ 16 ∧ 0 ≤ a ∧ a ≤ b) ∨ (a = 0 ∧ b = 0 ∧ f = false ∧ l = false))
section
variable {W w : World} {m : List (Nat × Obj)}
set_option maxHeartbeats 1000000 in
theorem may_spec (h : Own W m w) (a b : Int) (f l : Bool) : Calls Try.prog 91 #[.agg #[.int .i64 a, .int .i64 b, .bool f, .bool l]] w fun e w' => e = .returned (.bool (mayB a b f l)) ∧ Own W m w' := by
  have h0 := h.alloc (.cells #[.int .i64 a, .int .i64 b, .bool f, .bool l] 80)
  cases hm : mayB a b f l with
  | true =>
    rcases of_decide_eq_true hm with ⟨rfl, h1, h2, h3, h4⟩ | ⟨rfl, rfl, rfl, rfl⟩
    · clear hm
      go_enter Try.func91, Try.ntmps91
      go_wp2_with fail
      go_ret
      exact ⟨rfl, h0⟩
    · clear hm
      go_enter Try.func91, Try.ntmps91
      go_wp2_with fail
      go_ret
      exact ⟨rfl, h0⟩
  | false =>
    have hm := of_decide_eq_false hm
    cases l with
    | false =>
      have hn : ¬ (a = 0 ∧ b = 0 ∧ f = false) := fun hh => hm (.inr ⟨hh.1, hh.2.1, hh.2.2, rfl⟩)
      by_cases ha : a = 0
      · by_cases hb : b = 0
        · have hf : f = true := by
            cases f
            · exact absurd ⟨ha, hb, rfl⟩ hn
            · rfl
          subst ha hb hf
          clear hm hn
          go_enter Try.func91, Try.ntmps91
          go_wp2_with fail
          go_ret
          exact ⟨rfl, h0⟩
        · have hbb : (b == 0) = false := beq_eq_false_iff_ne.2 hb
          subst ha
          clear hm hn
          go_enter Try.func91, Try.ntmps91
          go_wp2_with fail
          go_ret
          exact ⟨rfl, h0⟩
      · have hab : (a == 0) = false := beq_eq_false_iff_ne.2 ha
        clear hm hn
        go_enter Try.func91, Try.ntmps91
        go_wp2_with fail
        go_ret
        exact ⟨rfl, h0⟩
    | true =>
      have hn : ¬ (1 ≤ b ∧ b ≤ 16 ∧ 0 ≤ a ∧ a ≤ b) := fun hh => hm (.inl ⟨rfl, hh⟩)
      clear hm
      rcases (show b < 1 ∨ (1 ≤ b ∧ 16 < b) ∨ (1 ≤ b ∧ b ≤ 16 ∧ a < 0) ∨ (1 ≤ b ∧ b ≤ 16 ∧ 0 ≤ a ∧ b < a) by omega) with h1 | ⟨h1, h2⟩ | ⟨h1, h2, h3⟩ | ⟨h1, h2, h3, h4⟩
      all_goals
        clear hn
        try have h5 : ¬ a ≤ b := by omega
        go_enter Try.func91, Try.ntmps91
        go_wp2_with fail
        go_ret
        exact ⟨rfl, h0⟩
theorem and_bit (x k : Nat) (hx : x < 18446744073709551616) (hk : k < 64) : bits .and .u64 (x : Int) ((2 ^ k : Nat) : Int) = ((2 ^ k * (x / 2 ^ k % 2) : Nat) : Int) := by
  have hp : 2 ^ k < 18446744073709551616 := by
    have := Nat.pow_lt_pow_right (a := 2) (by omega) hk
    exact this
  rw [u64_and_nat x (2 ^ k) hx hp]
  congr 1
  have ht : x.testBit k = decide (x / 2 ^ k % 2 = 1) := Nat.testBit_eq_decide_div_mod_eq
  apply Nat.eq_of_testBit_eq
  intro i
  rw [Nat.testBit_and, Nat.testBit_two_pow]
  rcases (show x / 2 ^ k % 2 = 0 ∨ x / 2 ^ k % 2 = 1 by omega) with h | h
  · rw [h, Nat.mul_zero, Nat.zero_testBit]
    by_cases hki : k = i
    · subst hki; rw [ht, h]; simp
    · simp [hki]
  · rw [h, Nat.mul_one, Nat.testBit_two_pow]
    by_cases hki : k = i
    · subst hki; rw [ht, h]; simp
    · simp [hki]
/-- what Counts answers -/
def countsV (w : Nat) : Value := match countsOf w with
  | some c => .tuple #[.agg #[.int .i64 c.inuse, .int .i64 c.objects, .bool c.frozen, .bool c.live], .bool true]
  | none => .tuple #[.agg #[.int .i64 0, .int .i64 0, .bool false, .bool false], .bool false]
theorem countsOf_may (x : Nat) (hx : x < 262144) : countsOf x = if mayB ((x % 256 : Nat) : Int) ((x / 256 % 256 : Nat) : Int) (decide (x / 65536 % 2 = 1)) (decide (x / 131072 % 2 = 1)) = true then some ⟨x % 256, x / 256 % 256, decide (x / 65536 % 2 = 1), decide (x / 131072 % 2 = 1)⟩ else none := by
  unfold countsOf mayB
  by_cases h0 : x = 0
  · subst h0
    decide
  · rw [if_neg h0]
    by_cases hl : x / 131072 % 2 = 1
    · rw [decide_eq_true hl]
      by_cases h1 : 131072 ≤ x ∧ x < 262144 ∧ 1 ≤ x / 256 % 256 ∧ x / 256 % 256 ≤ 16 ∧ x % 256 ≤ x / 256 % 256
      · rw [if_pos h1, if_pos (decide_eq_true (.inl ⟨rfl, by omega⟩))]
      · rw [if_neg h1, if_neg]
        intro h2
        rcases of_decide_eq_true h2 with ⟨-, h3⟩ | ⟨-, -, -, h3⟩
        · omega
        · cases h3
    · rw [decide_eq_false hl, if_neg (by omega), if_neg]
      intro h2
      rcases of_decide_eq_true h2 with ⟨h3, -⟩ | ⟨h3, h4, h5, -⟩
      · cases h3
      · have h5 := of_decide_eq_false h5
        omega
theorem countsOf_big (x : Nat) (hx : 262144 ≤ x) : countsOf x = none := by
  unfold countsOf
  rw [if_neg (by omega), if_neg (by omega)]
set_option maxRecDepth 100000 in
set_option maxHeartbeats 2000000 in
theorem counts_spec (h : Own W m w) (x : Nat) (hx : x < 18446744073709551616) : Calls Try.prog 83 #[.int .u64 x] w fun e w' => e = .returned (countsV x) ∧ Own W m w' := by
  have a1 := and255 x hx
  have a2 := and255 (x / 256) (by omega)
  have hd : (x : Int) / 256 = ((x / 256 : Nat) : Int) := by omega
  have a3 := and_bit x 16 hx (by omega)
  have a4 := and_bit x 17 hx (by omega)
  rw [show (2 : Nat) ^ 16 = 65536 from rfl] at a3
  rw [show (2 : Nat) ^ 17 = 131072 from rfl] at a4
  have hc1 := countsOf_may x
  have hc2 := countsOf_big x
  unfold countsV
  obtain ⟨A, hA⟩ : ∃ A, x % 256 = A := ⟨_, rfl⟩
  obtain ⟨Q, hQ⟩ : ∃ Q, x / 256 = Q := ⟨_, rfl⟩
  obtain ⟨B, hB⟩ : ∃ B, Q % 256 = B := ⟨_, rfl⟩
  obtain ⟨F, hF⟩ : ∃ F, x / 65536 % 2 = F := ⟨_, rfl⟩
  obtain ⟨L, hL⟩ : ∃ L, x / 131072 % 2 = L := ⟨_, rfl⟩
  rw [hA] at a1
  rw [hQ] at hd a2
  rw [hB] at a2
  rw [hF] at a3
  rw [hL] at a4
  rw [hA, hQ, hB, hF, hL] at hc1
  have A255 : A ≤ 255 := by omega
  have B255 : B ≤ 255 := by omega
  have F2 : F = 0 ∨ F = 1 := by omega
  have L2 : L = 0 ∨ L = 1 := by omega
  have b3 : (bits .and .u64 (x : Int) 65536 != 0) = decide (F = 1) := by
    have a3 : bits .and .u64 (x : Int) 65536 = ((65536 * F : Nat) : Int) := a3
    rw [a3]
    rcases F2 with rfl | rfl <;> rfl
  have b4 : (bits .and .u64 (x : Int) 131072 != 0) = decide (L = 1) := by
    have a4 : bits .and .u64 (x : Int) 131072 = ((131072 * L : Nat) : Int) := a4
    rw [a4]
    rcases L2 with rfl | rfl <;> rfl
  obtain ⟨f, hf⟩ : ∃ f, decide (F = 1) = f := ⟨_, rfl⟩
  obtain ⟨l, hl⟩ : ∃ l, decide (L = 1) = l := ⟨_, rfl⟩
  rw [hf] at b3 hc1
  rw [hl] at b4 hc1
  have h1 := h.new (.cells #[.int .i64 0, .int .i64 0, .bool false, .bool false] 80)
  have h2 := h1.new (.cells #[.int .i64 A, .int .i64 B, .bool f, .bool l] 80)
  simp only [World.size_alloc] at h2
  obtain ⟨g, hg⟩ : ∃ g, w.heap.size = g := ⟨_, rfl⟩
  rw [hg] at h1 h2
  have c1 := h1.cell List.mem_cons_self
  have f1 := h1.frozen List.mem_cons_self
  clear hA hQ hB hF hL hf hl a3 a4 F2 L2 hx
  by_cases hbig : x < 262144
  · have hc := hc1 hbig
    have hx : decide ((262144 : Int) ≤ x) = false := decide_eq_false (by omega)
    have hm := fun ws (hs : Own W ((g + 1, Obj.cells #[.int .i64 A, .int .i64 B, .bool f, .bool l] 80 (0, 0)) :: (g, Obj.cells #[.int .i64 0, .int .i64 0, .bool false, .bool false] 80 (0, 0)) :: m) ws) => may_spec hs A B f l
    cases hmay : mayB A B f l with
    | true =>
      rw [hmay] at hc hm
      simp only [if_true] at hc
      have HM := Lib.hid hm
      rw [hc]
      clear hc hbig hc1 hc2 hm hmay
      go_enter Try.func83, Try.ntmps83
      go_wp2_with fail
      refine (HM.out _ h2).mono ?_
      rintro e w3 ⟨rfl, h3⟩
      have q := h3.cell List.mem_cons_self
      have u := h3.frozen (List.mem_cons_of_mem _ List.mem_cons_self)
      have q0 := q 0
      have q1 := q 1
      have q2 := q 2
      have q3 := q 3
      have u0 := u 0
      have u1 := u 1
      have u2 := u 2
      have u3 := u 3
      simp at q0 q1 q2 q3
      have z := h3.cell (List.mem_cons_of_mem _ List.mem_cons_self)
      have z0 := z 0
      have z1 := z 1
      have z2 := z 2
      have z3 := z 3
      simp at z0 z1 z2 z3
      clear q u z b3 b4 a1 a2 hd
      go_wp2_with fail
      have h4 : Own W ([(g + 1, Obj.cells #[.int .i64 A, .int .i64 B, .bool f, .bool l] 80 (0, 0))] ++ (g, Obj.cells #[.int .i64 0, .int .i64 0, .bool false, .bool false] 80 (0, 0)) :: m) w3 := h3
      have h5 := (((h4.setIn 0 (.int .i64 A)).setIn 1 (.int .i64 B)).setIn 2 (.bool f)).setIn 3 (.bool l)
      have ec := h5.cell (List.mem_append_right _ List.mem_cons_self)
      have e0 := ec 0
      have e1 := ec 1
      have e2 := ec 2
      have e3 := ec 3
      simp at e0 e1 e2 e3
      exact bodyPost_ret (v := .tuple #[.agg #[(.int .i64 A), (.int .i64 B), (.bool f), (.bool l)], .bool true]) (by simp [results, Try.f83, go_sem, e0, e1, e2, e3]) rfl ⟨rfl, h5.drop1.dropL⟩
    | false =>
      rw [hmay] at hc hm
      simp only [Bool.false_eq_true, if_false] at hc
      have HM := Lib.hid hm
      rw [hc]
      clear hc hbig hc1 hc2 hm hmay
      go_enter Try.func83, Try.ntmps83
      go_wp2_with fail
      refine (HM.out _ h2).mono ?_
      rintro e w3 ⟨rfl, h3⟩
      have q := h3.cell List.mem_cons_self
      have u := h3.frozen (List.mem_cons_of_mem _ List.mem_cons_self)
      have q0 := q 0
      have q1 := q 1
      have q2 := q 2
      have q3 := q 3
      have u0 := u 0
      have u1 := u 1
      have u2 := u 2
      have u3 := u 3
      simp at q0 q1 q2 q3
      have z := h3.cell (List.mem_cons_of_mem _ List.mem_cons_self)
      have z0 := z 0
      have z1 := z 1
      have z2 := z 2
      have z3 := z 3
      simp at z0 z1 z2 z3
      clear q u z b3 b4 a1 a2 hd
      go_wp2_with fail
      have h4 : Own W ([(g + 1, Obj.cells #[.int .i64 A, .int .i64 B, .bool f, .bool l] 80 (0, 0))] ++ (g, Obj.cells #[.int .i64 0, .int .i64 0, .bool false, .bool false] 80 (0, 0)) :: m) w3 := h3
      have h5 := (((h4.setIn 0 (.int .i64 0)).setIn 1 (.int .i64 0)).setIn 2 (.bool false)).setIn 3 (.bool false)
      have ec := h5.cell (List.mem_append_right _ List.mem_cons_self)
      have e0 := ec 0
      have e1 := ec 1
      have e2 := ec 2
      have e3 := ec 3
      simp at e0 e1 e2 e3
      exact bodyPost_ret (v := .tuple #[.agg #[(.int .i64 0), (.int .i64 0), (.bool false), (.bool false)], .bool false]) (by simp [results, Try.f83, go_sem, e0, e1, e2, e3]) rfl ⟨rfl, h5.drop1.dropL⟩
  · have hc := hc2 (by omega)
    have hx : ¬ (x : Int) < 262144 := by omega
    rw [hc]
    clear hc hbig hc1 hc2
    go_enter Try.func83, Try.ntmps83
    go_wp2_with fail
    have ec := h2.cell (List.mem_cons_of_mem _ List.mem_cons_self)
    have e0 := ec 0
    have e1 := ec 1
    have e2 := ec 2
    have e3 := ec 3
    simp at e0 e1 e2 e3
    exact bodyPost_ret (v := .tuple #[.agg #[.int .i64 0, .int .i64 0, .bool false, .bool false], .bool false]) (by simp [results, Try.f83, go_sem, e0, e1, e2, e3]) rfl ⟨rfl, h2.skip.skip⟩
end
end Go.Proofs.Ytigakendeghoaaa.See

/-
  Contract: a slab (reader.slab). No condition.
-/
namespace Go.Proofs.Ytigakendeghoaaa.See
open Go.RowKit
open chartPlaces (Ok)
attribute [local go_sem ↓] Go.wp_at_zero Go.wp_at_succ
section
variable {W w : World} {M m : List (Nat × Obj)} {B o N k b : Nat} {g : List Nat} {c : Ch} {d e : Int}
/-- what slab answers -/
def SlabPost (W : World) (m : List (Nat × Obj)) (r : Option SlabP) (e : Ending) (w' : World) : Prop := match r with
  | some x => ∃ v bs, e = .returned (.tuple #[.agg #[.int .i64 x.counts.inuse, .int .i64 x.counts.objects, .bool x.counts.frozen, .bool x.counts.live, v], .bool true]) ∧ Hid (IntsOwn true v x.first bs) ∧ Own W (bs ++ m) w'
  | none => e = .returned (.tuple #[.agg #[.int .i64 0, .int .i64 0, .bool false, .bool false, .slice none 0 0], .bool false]) ∧ Own W m w'
/-- a slab's block -/
def lBlk (b : Nat) (a o : Int) (f l : Bool) (v : Value) : Nat × Obj := (b, .cells #[.int .i64 a, .int .i64 o, .bool f, .bool l, v] 82)
theorem box5 {b : Nat} {a o : Int} {f l : Bool} {v : Value} (h : Own W (lBlk b a o f l v :: m) w) : (w.cell? ⟨b, 0, none⟩ = some (.int .i64 a) ∧ w.cell? ⟨b, 1, none⟩ = some (.int .i64 o) ∧ w.cell? ⟨b, 2, none⟩ = some (.bool f) ∧ w.cell? ⟨b, 3, none⟩ = some (.bool l) ∧ w.cell? ⟨b, 4, none⟩ = some v) ∧ (w.frozen? ⟨b, 0, none⟩ = false ∧ w.frozen? ⟨b, 1, none⟩ = false ∧ w.frozen? ⟨b, 2, none⟩ = false ∧ w.frozen? ⟨b, 3, none⟩ = false ∧ w.frozen? ⟨b, 4, none⟩ = false) :=
  ⟨⟨h.cell List.mem_cons_self 0, h.cell List.mem_cons_self 1, h.cell List.mem_cons_self 2, h.cell List.mem_cons_self 3, h.cell List.mem_cons_self 4⟩, ⟨h.frozen List.mem_cons_self 0, h.frozen List.mem_cons_self 1, h.frozen List.mem_cons_self 2, h.frozen List.mem_cons_self 3, h.frozen List.mem_cons_self 4⟩⟩
theorem lset {b : Nat} {a o a' o' : Int} {f l f' l' : Bool} {v v' : Value} (h : Own W (lBlk b a o f l v :: m) w) : Own W (lBlk b a' o' f' l' v' :: m) (((((w.setCell ⟨b, 0, none⟩ (.int .i64 a')).setCell ⟨b, 1, none⟩ (.int .i64 o')).setCell ⟨b, 2, none⟩ (.bool f')).setCell ⟨b, 3, none⟩ (.bool l')).setCell ⟨b, 4, none⟩ v') := by
  have h1 := ((((h.set 0 (.int .i64 a')).set 1 (.int .i64 o')).set 2 (.bool f')).set 3 (.bool l')).set 4 v'
  exact h1
theorem lset4 {b : Nat} {a o a' o' : Int} {f l f' l' : Bool} {v : Value} (h : Own W (lBlk b a o f l v :: m) w) : Own W (lBlk b a' o' f' l' v :: m) ((((w.setCell ⟨b, 0, none⟩ (.int .i64 a')).setCell ⟨b, 1, none⟩ (.int .i64 o')).setCell ⟨b, 2, none⟩ (.bool f')).setCell ⟨b, 3, none⟩ (.bool l')) := by
  have h1 := (((h.set 0 (.int .i64 a')).set 1 (.int .i64 o')).set 2 (.bool f')).set 3 (.bool l')
  exact h1
theorem lsetv {b : Nat} {a o : Int} {f l : Bool} {v v' : Value} (h : Own W (lBlk b a o f l v :: m) w) : Own W (lBlk b a o f l v' :: m) (w.setCell ⟨b, 4, none⟩ v') := h.set 4 v'
set_option maxRecDepth 100000 in
set_option maxHeartbeats 4000000 in
theorem rslab_spec (h : Own W m w) (hc : COk c d e) (hw : WOk W m B o N k g c) (s : Nat) (hs : s < c.S) :
    Calls Try.prog 67 #[rV B o N k c d e, .int .i64 s] w (SlabPost W m (slabP c g s)) := by
  obtain ⟨n1, n2, n3, n4, n5, n6⟩ := hc.nums
  have h1 := (h.new (.cells #[.slice (some ⟨B, o, none⟩) N k, .int .i64 c.C, .int .i64 c.S, .int .i64 c.O, .int .i64 d, .int .i64 e, .int .u64 c.key] 84)).new (.cells #[.int .i64 0, .int .i64 0, .bool false, .bool false, .slice none 0 0] 82)
  obtain ⟨b, hb⟩ : ∃ b, w.heap.size = b := ⟨_, rfl⟩
  simp only [World.size_alloc] at h1
  rw [hb] at h1
  have h1 : Own W (lBlk (b + 1) 0 0 false false (.slice none 0 0) :: (rBlk b B o N k c d e :: m)) _ := h1
  obtain ⟨y0, y1, y2, y3, y4, y5, y6⟩ := box7 h1.skip
  have hN := hw.n
  unfold Ch.words at hN
  have hii : 0 ≤ (s : Int) ∧ (s : Int) < (c.S : Int) := by omega
  obtain ⟨p, hp⟩ : ∃ p : Nat, 4 * c.C + 4 + 4 * s = p := ⟨_, rfl⟩
  have hpi : 4 * (c.C : Int) + 4 + 4 * (s : Int) = (p : Int) := by omega
  have HPI := Lib.hid hpi
  have hpN : p + 1 < N := by omega
  have hp0 : (0 : Int) ≤ (p : Int) := by omega
  have hp1 : (p : Int) < (N : Int) := by omega
  have hp2 : (p : Int) + 1 < (N : Int) := by omega
  have hp5 : (0 : Int) ≤ (p : Int) + 1 := by omega
  have hpb : p ≤ 200 := by omega
  obtain ⟨x0, hx0⟩ : ∃ x, g[p]? = some x := ⟨_, List.getElem?_eq_getElem (by rw [hw.len]; omega)⟩
  obtain ⟨x1, hx1⟩ : ∃ x, g[p + 1]? = some x := ⟨_, List.getElem?_eq_getElem (by rw [hw.len]; omega)⟩
  have a0 : at_ g (4 * c.C + 4 + 4 * s) = x0 := by unfold at_; rw [hp, List.getD_eq_getElem?_getD, hx0]; rfl
  have a1 : at_ g (4 * c.C + 4 + 4 * s + 1) = x1 := by unfold at_; rw [hp, List.getD_eq_getElem?_getD, hx1]; rfl
  have hcs := fun ws (hws : Own W (lBlk (b + 1) 0 0 false false (.slice none 0 0) :: (rBlk b B o N k c d e :: m)) ws) => counts_spec hws x1 (hw.w64 x1 (List.mem_of_getElem? hx1))
  have HG : Hid (∀ ws, Own W m ws → ws.cell? ⟨B, o + p, none⟩ = some (.int .u64 (x0 : Int)) ∧ ws.cell? ⟨B, o + (p + 1), none⟩ = some (.int .u64 (x1 : Int))) := fun ws hws => ⟨hw.rd ws hws p x0 hx0, hw.rd ws hws (p + 1) x1 hx1⟩
  unfold slabP
  rw [a0, a1]
  unfold countsV at hcs
  have HC := Lib.hid hc
  have HW := Lib.hid hw
  have HI := Lib.hid hii
  have H1 := Lib.hid h1
  clear hN hp hpi hx0 hx1 a0 a1 hw hc hii h1 h
-- BODY
  cases hh : countsOf x1 with
  | none =>
    rw [hh] at hcs
    have HH := Lib.hid hcs
    simp only
    clear hh hcs
    unfold rV
    go_enter Try.func67, Try.ntmps67
    go_wp2_with fail
    refine (Apart.first_ok HC.out.ok HI.out H1.out).mono ?_
    rintro r w2 ⟨rfl, h2⟩
    rw [HPI.out]
    clear y0 y1 y2 y3 y4 y5 y6
    obtain ⟨y0, y1, y2, y3, y4, y5, y6⟩ := box7 h2.skip
    obtain ⟨q0, q1⟩ := HG.out _ h2.skip.skip
    go_wp2_with fail
    refine (HH.out _ h2).mono ?_
    rintro r w3 ⟨rfl, h3⟩
    clear y0 y1 y2 y3 y4 y5 y6 q0 q1
    obtain ⟨y0, y1, y2, y3, y4, y5, y6⟩ := box7 h3.skip
    obtain ⟨q0, q1⟩ := HG.out _ h3.skip.skip
    obtain ⟨⟨z0, z1, z2, z3, z4⟩, ⟨f0, f1, f2, f3, f4⟩⟩ := box5 h3
    go_wp2_with fail
    have h8 := lset4 (a' := 0) (o' := 0) (f' := false) (l' := false) h3
    have h9 := lset (a' := 0) (o' := 0) (f' := false) (l' := false) (v' := (.slice none 0 0)) h8
    obtain ⟨⟨e0, e1, e2, e3, e4⟩, -⟩ := box5 h9
    exact bodyPost_ret (v := .tuple #[.agg #[.int .i64 0, .int .i64 0, .bool false, .bool false, (.slice none 0 0)], .bool false]) (by simp [results, Try.f67, go_sem, e0, e1, e2, e3, e4]) rfl ⟨rfl, h9.skip.skip⟩
  | some v =>
    obtain ⟨n0, n1', fr, li⟩ := v
    rw [hh] at hcs
    simp only at hcs ⊢
    have HH := Lib.hid hcs
    clear hh hcs
    by_cases hbig : c.O < x0
    · have hbi : (c.O : Int) < (x0 : Int) := by omega
      rw [if_pos hbig]
      unfold rV
      go_enter Try.func67, Try.ntmps67
      go_wp2_with fail
      refine (Apart.first_ok HC.out.ok HI.out H1.out).mono ?_
      rintro r w2 ⟨rfl, h2⟩
      rw [HPI.out]
      clear y0 y1 y2 y3 y4 y5 y6
      obtain ⟨y0, y1, y2, y3, y4, y5, y6⟩ := box7 h2.skip
      obtain ⟨q0, q1⟩ := HG.out _ h2.skip.skip
      go_wp2_with fail
      refine (HH.out _ h2).mono ?_
      rintro r w3 ⟨rfl, h3⟩
      clear y0 y1 y2 y3 y4 y5 y6 q0 q1
      obtain ⟨y0, y1, y2, y3, y4, y5, y6⟩ := box7 h3.skip
      obtain ⟨q0, q1⟩ := HG.out _ h3.skip.skip
      obtain ⟨⟨z0, z1, z2, z3, z4⟩, ⟨f0, f1, f2, f3, f4⟩⟩ := box5 h3
      go_wp2_with fail
      have h8 := lset4 (a' := (n0 : Int)) (o' := (n1' : Int)) (f' := fr) (l' := li) h3
      have h9 := lset (a' := 0) (o' := 0) (f' := false) (l' := false) (v' := (.slice none 0 0)) h8
      obtain ⟨⟨e0, e1, e2, e3, e4⟩, -⟩ := box5 h9
      exact bodyPost_ret (v := .tuple #[.agg #[.int .i64 0, .int .i64 0, .bool false, .bool false, (.slice none 0 0)], .bool false]) (by simp [results, Try.f67, go_sem, e0, e1, e2, e3, e4]) rfl ⟨rfl, h9.skip.skip⟩
    · have hbi : ¬ (c.O : Int) < (x0 : Int) := by omega
      have hx16 : (x0 : Int) ≤ 16 := by omega
      rw [if_neg hbig]
      have hrl := fun ws (hws : Own W (lBlk (b + 1) n0 n1' fr li (.slice none 0 0) :: (rBlk b B o N k c d e :: m)) ws) => rlist_spec hws HC.out ((HW.out.more (m' := [rBlk b B o N k c d e])).more (m' := [lBlk (b + 1) n0 n1' fr li (.slice none 0 0)])) s hs ((x0 : Int) - 1) (by omega)
      cases hl : listP c g s ((x0 : Int) - 1) with
      | none =>
        rw [hl] at hrl
        have HRL := Lib.hid hrl
        simp only
        clear hl hrl
        unfold rV
        go_enter Try.func67, Try.ntmps67
        go_wp2_with fail
        refine (Apart.first_ok HC.out.ok HI.out H1.out).mono ?_
        rintro r w2 ⟨rfl, h2⟩
        rw [HPI.out]
        clear y0 y1 y2 y3 y4 y5 y6
        obtain ⟨y0, y1, y2, y3, y4, y5, y6⟩ := box7 h2.skip
        obtain ⟨q0, q1⟩ := HG.out _ h2.skip.skip
        go_wp2_with fail
        refine (HH.out _ h2).mono ?_
        rintro r w3 ⟨rfl, h3⟩
        clear y0 y1 y2 y3 y4 y5 y6 q0 q1
        obtain ⟨y0, y1, y2, y3, y4, y5, y6⟩ := box7 h3.skip
        obtain ⟨q0, q1⟩ := HG.out _ h3.skip.skip
        obtain ⟨⟨z0, z1, z2, z3, z4⟩, ⟨f0, f1, f2, f3, f4⟩⟩ := box5 h3
        go_wp2_with fail
        have h4 := lset4 (a' := (n0 : Int)) (o' := (n1' : Int)) (f' := fr) (l' := li) h3
        refine (HRL.out _ h4).mono ?_
        rintro r w6 ⟨rfl, h6⟩
        clear y0 y1 y2 y3 y4 y5 y6 q0 q1 z0 z1 z2 z3 z4 f0 f1 f2 f3 f4 h2 h3 h4
        obtain ⟨⟨z0, z1, z2, z3, z4⟩, ⟨f0, f1, f2, f3, f4⟩⟩ := box5 h6
        go_wp2_with fail
        have h8 := lsetv (v' := .slice none 0 0) h6
        have h9 := lset (a' := 0) (o' := 0) (f' := false) (l' := false) (v' := (.slice none 0 0)) h8
        obtain ⟨⟨e0, e1, e2, e3, e4⟩, -⟩ := box5 h9
        exact bodyPost_ret (v := .tuple #[.agg #[.int .i64 0, .int .i64 0, .bool false, .bool false, (.slice none 0 0)], .bool false]) (by simp [results, Try.f67, go_sem, e0, e1, e2, e3, e4]) rfl ⟨rfl, h9.skip.skip⟩
      | some l1 =>
        rw [hl] at hrl
        have HRL := Lib.hid hrl
        simp only
        clear hl hrl
        unfold rV
        go_enter Try.func67, Try.ntmps67
        go_wp2_with fail
        refine (Apart.first_ok HC.out.ok HI.out H1.out).mono ?_
        rintro r w2 ⟨rfl, h2⟩
        rw [HPI.out]
        clear y0 y1 y2 y3 y4 y5 y6
        obtain ⟨y0, y1, y2, y3, y4, y5, y6⟩ := box7 h2.skip
        obtain ⟨q0, q1⟩ := HG.out _ h2.skip.skip
        go_wp2_with fail
        refine (HH.out _ h2).mono ?_
        rintro r w3 ⟨rfl, h3⟩
        clear y0 y1 y2 y3 y4 y5 y6 q0 q1
        obtain ⟨y0, y1, y2, y3, y4, y5, y6⟩ := box7 h3.skip
        obtain ⟨q0, q1⟩ := HG.out _ h3.skip.skip
        obtain ⟨⟨z0, z1, z2, z3, z4⟩, ⟨f0, f1, f2, f3, f4⟩⟩ := box5 h3
        go_wp2_with fail
        have h4 := lset4 (a' := (n0 : Int)) (o' := (n1' : Int)) (f' := fr) (l' := li) h3
        refine (HRL.out _ h4).mono ?_
        rintro r w6 ⟨v7, b7, rfl, K7, h6⟩
        obtain ⟨A7, c7, hv7, -, -⟩ := K7.out.slice
        subst hv7
        clear y0 y1 y2 y3 y4 y5 y6 q0 q1 z0 z1 z2 z3 z4 f0 f1 f2 f3 f4 h2 h3 h4
        have h7 : Own W (lBlk (b + 1) n0 n1' fr li (.slice none 0 0) :: (b7 ++ (rBlk b B o N k c d e :: m))) w6 := h6.perm List.perm_middle
        obtain ⟨⟨z0, z1, z2, z3, z4⟩, ⟨f0, f1, f2, f3, f4⟩⟩ := box5 h7
        go_wp2_with fail
        have h8 := lsetv (v' := .slice A7 l1.length c7) h7
        have h9 := lset (a' := (n0 : Int)) (o' := (n1' : Int)) (f' := fr) (l' := li) (v' := (.slice A7 l1.length c7)) h8
        obtain ⟨⟨e0, e1, e2, e3, e4⟩, -⟩ := box5 h9
        exact bodyPost_ret (v := .tuple #[.agg #[.int .i64 (n0 : Int), .int .i64 (n1' : Int), .bool fr, .bool li, (.slice A7 l1.length c7)], .bool true]) (by simp [results, Try.f67, go_sem, e0, e1, e2, e3, e4]) rfl ⟨_, b7, rfl, K7, h9.skip.drop1⟩
-- BODYEND
end
end Go.Proofs.Ytigakendeghoaaa.See

/-
  A core that was seen: what its value owns; append of its parts. No condition.
-/
namespace Go.Proofs.Ytigakendeghoaaa.See
open Go.RowKit
theorem slot_info : (Try.prog.info? 78).map (fun i => (i.zero, i.size, i.bytes)) = some (some (.agg #[.int .i64 0, .slice none 0 0, .int .u64 0, .slice none 0 0]), 4, 64) := by kernel_rfl
theorem slab_info : (Try.prog.info? 82).map (fun i => (i.zero, i.size, i.bytes)) = some (some (.agg #[.int .i64 0, .int .i64 0, .bool false, .bool false, .slice none 0 0]), 5, 48) := by kernel_rfl
/-- a slot, with what it owns -/
structure SlotN where
  x : SlotP
  lv : Value
  lb : List (Nat × Obj)
  pv : Value
  pb : List (Nat × Obj)
def SlotN.cells (s : SlotN) : List Value := [.int .i64 s.x.slab, s.lv, .int .u64 s.x.turn, s.pv]
def slotCells (L : List SlotN) : List Value := L.flatMap SlotN.cells
def slotBlocks (L : List SlotN) : List (Nat × Obj) := L.flatMap fun s => s.lb ++ s.pb
def SlotsOk (L : List SlotN) : Prop := ∀ s ∈ L, IntsOwn true s.lv s.x.list s.lb ∧ IntsOwn true s.pv s.x.parts s.pb
/-- a slab, with what it owns -/
structure SlabN where
  x : SlabP
  v : Value
  b : List (Nat × Obj)
def SlabN.cells (s : SlabN) : List Value := [.int .i64 s.x.counts.inuse, .int .i64 s.x.counts.objects, .bool s.x.counts.frozen, .bool s.x.counts.live, s.v]
def slabCells (L : List SlabN) : List Value := L.flatMap SlabN.cells
def slabBlocks (L : List SlabN) : List (Nat × Obj) := L.flatMap SlabN.b
def SlabsOk (L : List SlabN) : Prop := ∀ s ∈ L, IntsOwn true s.v s.x.first s.b
theorem slotCells_append (a b : List SlotN) : slotCells (a ++ b) = slotCells a ++ slotCells b := by simp [slotCells]
theorem slabCells_append (a b : List SlabN) : slabCells (a ++ b) = slabCells a ++ slabCells b := by simp [slabCells]
theorem slotBlocks_append (a b : List SlotN) : slotBlocks (a ++ b) = slotBlocks a ++ slotBlocks b := by simp [slotBlocks]
theorem slabBlocks_append (a b : List SlabN) : slabBlocks (a ++ b) = slabBlocks a ++ slabBlocks b := by simp [slabBlocks]
abbrev SlotsV (v : Value) (L : List SlotN) (bs : List (Nat × Obj)) : Prop := SlO true 78 4 v L.length (slotCells L) bs
abbrev SlabsV (v : Value) (L : List SlabN) (bs : List (Nat × Obj)) : Prop := SlO true 82 5 v L.length (slabCells L) bs
/-- a core's value -/
def CoreO (v : Value) (K : CoreP) (bs : List (Nat × Obj)) : Prop := ∃ (Ls : List SlotN) (sv : Value) (b0 : List (Nat × Obj)) (hv : Value) (b1 : List (Nat × Obj)) (Ll : List SlabN) (lv : Value) (b2 : List (Nat × Obj)),
  v = .agg #[sv, hv, .bool K.locked, lv] ∧ Ls.map (·.x) = K.slots ∧ SlotsOk Ls ∧ SlotsV sv Ls b0 ∧ IntsOwn true hv K.shelf b1 ∧ Ll.map (·.x) = K.slabs ∧ SlabsOk Ll ∧ SlabsV lv Ll b2 ∧ bs = b0 ++ (slotBlocks Ls ++ (b1 ++ (b2 ++ slabBlocks Ll)))
section
variable {P : Program} {W w : World} {m bs : List (Nat × Obj)} {v xv : Value} {xs news : List Value} {e size n k bytes : Nat}
/-- append, of structs of any cells -/
theorem app_struct {ops : Array Oper} {rest : List Oper} {o : Oper} {a : Act} {Q : Exit → Act → World → Prop} (hgd : o.guard = none) (s x : Operand) (t : TypeId)
    (ho : o.op = .call { callee := .builtin .append, args := #[s, x], argTypes := #[t, t] }) (hes : a.eval s = v) (hex : a.eval x = xv)
    (z : Value) (hinfo : (P.info? e).map (fun i => (i.zero, i.size, i.bytes)) = some (some z, size, bytes)) (ht : P.underlying t = some (.slice e)) (hzs : z.cells.size = size) (hsz : 0 < size) (hb : bytes ≤ 200)
    (hs : SlO true e size v n xs bs) (hO : Own W (bs ++ m) w) (hx : Src w size xv k news) (h1 : ∀ u ∈ news, u.oneCell' = true) (hlen : n + k ≤ 60000)
    (h : ∀ v' w' bs', SlO true e size v' (n + k) (xs ++ news) bs' → Own W (bs' ++ m) w' → wpList P ops Q rest (a.put o.dst v') w') :
    wpList P ops Q (o :: rest) a w := by
  obtain ⟨i, hi, hz, hsz', hby⟩ := info_get hinfo
  have hbb : (n + k) * bytes ≤ 60000 * 200 := Nat.mul_le_mul hlen hb
  exact wpList_app hgd s x t ho hes hex e i z size bytes ht hi hz hsz' hby hzs hsz hs hO hx h1 (by unfold maxLen; omega) (by omega) fun v' w' bs' h1 h2 _ => h v' w' bs' h1 h2
/-- a struct that the code writes down, in a block of its own -/
theorem src_vals (w : World) (e : TypeId) (l : List Value) : Src (w.alloc (.cells l.toArray e)) l.length (.slice (some ⟨w.heap.size, 0, none⟩) 1 1) 1 l := by
  refine ⟨by simp, .inr ⟨_, _, rfl, fun j u hj => ?_⟩⟩
  rw [add_lit0]
  simp [hj]
theorem IntsOwn.one {ex : Bool} {v : Value} {l : List Int} {b : List (Nat × Obj)} (h : IntsOwn ex v l b) : v.oneCell' = true := by
  obtain ⟨A, c, rfl, -, -⟩ := SlO.slice h
  rfl
end
end Go.Proofs.Ytigakendeghoaaa.See

/-
  Contract: chart.See. No condition.
-/
namespace Go.Proofs.Ytigakendeghoaaa.See
open Go.RowKit
open Apart (chV chB box6 ChAt)
open chartPlaces (Ok)
attribute [local go_sem ↓] Go.wp_at_zero Go.wp_at_succ
/-- a core's block -/
def kBlk (b : Nat) (sv hv : Value) (l : Bool) (lv : Value) : Nat × Obj := (b, .cells #[sv, hv, .bool l, lv] 40)
section
variable {W w : World} {M m : List (Nat × Obj)} {B o N k b : Nat} {g : List Nat} {c : Ch} {d e : Int}
theorem boxK {b : Nat} {sv hv lv : Value} {l : Bool} (h : Own W (kBlk b sv hv l lv :: m) w) : (w.cell? ⟨b, 0, none⟩ = some sv ∧ w.cell? ⟨b, 1, none⟩ = some hv ∧ w.cell? ⟨b, 2, none⟩ = some (.bool l) ∧ w.cell? ⟨b, 3, none⟩ = some lv) ∧ (w.frozen? ⟨b, 0, none⟩ = false ∧ w.frozen? ⟨b, 1, none⟩ = false ∧ w.frozen? ⟨b, 2, none⟩ = false ∧ w.frozen? ⟨b, 3, none⟩ = false) :=
  ⟨⟨h.cell List.mem_cons_self 0, h.cell List.mem_cons_self 1, h.cell List.mem_cons_self 2, h.cell List.mem_cons_self 3⟩, ⟨h.frozen List.mem_cons_self 0, h.frozen List.mem_cons_self 1, h.frozen List.mem_cons_self 2, h.frozen List.mem_cons_self 3⟩⟩
theorem kset {b : Nat} {sv hv lv sv' hv' lv' : Value} {l l' : Bool} (h : Own W (kBlk b sv hv l lv :: m) w) : Own W (kBlk b sv' hv' l' lv' :: m) ((((w.setCell ⟨b, 0, none⟩ sv').setCell ⟨b, 1, none⟩ hv').setCell ⟨b, 2, none⟩ (.bool l')).setCell ⟨b, 3, none⟩ lv') := by
  have h1 := (((h.set 0 sv').set 1 hv').set 2 (.bool l')).set 3 lv'
  exact h1
theorem upto_step {α : Type} {f : Nat → Option α} {n : Nat} {l : List α} {x : α} (h : upto f n = some l) (hx : f n = some x) : upto f (n + 1) = some (l ++ [x]) := by
  unfold upto
  rw [h, hx]
theorem see_perm1 {α : Type} (a b c d : List α) : (a ++ (b ++ (c ++ d))).Perm (c ++ (a ++ (b ++ d))) :=
  (List.Perm.append_left a (perm_swap b c d)).trans (perm_swap a c _)
theorem see_perm2 {α : Type} (a b c d : List α) (x : α) (e : List α) : (a ++ (b ++ (c ++ (d ++ x :: e)))).Perm (x :: (a ++ (b ++ (c ++ (d ++ e))))) := by
  have h : ∀ (l : List α) (m : List α), m.Perm (x :: e) → (l ++ m).Perm (x :: (l ++ e)) := fun l m hm => (List.Perm.append_left l hm).trans List.perm_middle
  have h1 : (d ++ x :: e).Perm (x :: (d ++ e)) := List.perm_middle
  have h2 : (c ++ (d ++ x :: e)).Perm (x :: (c ++ (d ++ e))) := (List.Perm.append_left c h1).trans List.perm_middle
  have h3 : (b ++ (c ++ (d ++ x :: e))).Perm (x :: (b ++ (c ++ (d ++ e)))) := (List.Perm.append_left b h2).trans List.perm_middle
  exact (List.Perm.append_left a h3).trans List.perm_middle
theorem see_perm3 (a lb pb : List (Nat × Obj)) (Ls : List SlotN) (y : Nat × Obj) (e : List (Nat × Obj)) {x : SlotP} {lv pv : Value} : (y :: (a ++ (lb ++ (pb ++ (slotBlocks Ls ++ e))))).Perm (a ++ ((slotBlocks Ls ++ slotBlocks [⟨x, lv, lb, pv, pb⟩]) ++ y :: e)) := by
  have e1 : slotBlocks [⟨x, lv, lb, pv, pb⟩] = lb ++ pb := by simp [slotBlocks]
  rw [e1]
  have h1 : (lb ++ (pb ++ (slotBlocks Ls ++ e))).Perm (slotBlocks Ls ++ (lb ++ (pb ++ e))) := (List.Perm.append_left lb (perm_swap pb _ e)).trans (perm_swap lb _ _)
  have h2 : ((slotBlocks Ls ++ (lb ++ pb)) ++ y :: e).Perm (y :: ((slotBlocks Ls ++ (lb ++ pb)) ++ e)) := List.perm_middle
  have h3 : ((slotBlocks Ls ++ (lb ++ pb)) ++ e) = slotBlocks Ls ++ (lb ++ (pb ++ e)) := by simp [List.append_assoc]
  rw [h3] at h2
  refine (List.Perm.cons y (List.Perm.append_left a h1)).trans ?_
  exact (List.perm_middle.symm).trans (List.Perm.append_left a h2.symm)
theorem kset0 {b : Nat} {sv hv lv sv' : Value} {l : Bool} (h : Own W (kBlk b sv hv l lv :: m) w) : Own W (kBlk b sv' hv l lv :: m) (w.setCell ⟨b, 0, none⟩ sv') := h.set 0 sv'
theorem kset1 {b : Nat} {sv hv lv hv' : Value} {l : Bool} (h : Own W (kBlk b sv hv l lv :: m) w) : Own W (kBlk b sv hv' l lv :: m) (w.setCell ⟨b, 1, none⟩ hv') := h.set 1 hv'
theorem kset3 {b : Nat} {sv hv lv lv' : Value} {l : Bool} (h : Own W (kBlk b sv hv l lv :: m) w) : Own W (kBlk b sv hv l lv' :: m) (w.setCell ⟨b, 3, none⟩ lv') := h.set 3 lv'
theorem see_perm4 {α : Type} (a b c : List α) (x y z u : α) (m : List α) : (a ++ (b ++ (c ++ (x :: (y :: (z :: (u :: m))))))).Perm (x :: (y :: (z :: (u :: (a ++ (b ++ (c ++ m))))))) := by
  have h1 : (c ++ ([x, y, z, u] ++ m)).Perm ([x, y, z, u] ++ (c ++ m)) := perm_swap _ _ _
  have h2 : (b ++ ([x, y, z, u] ++ (c ++ m))).Perm ([x, y, z, u] ++ (b ++ (c ++ m))) := perm_swap _ _ _
  have h3 : (a ++ ([x, y, z, u] ++ (b ++ (c ++ m)))).Perm ([x, y, z, u] ++ (a ++ (b ++ (c ++ m)))) := perm_swap _ _ _
  exact (List.Perm.append_left a ((List.Perm.append_left b h1).trans h2)).trans h3
theorem see_perm5 {α : Type} (a b c : List α) (x : α) (e : List α) : (a ++ (b ++ (c ++ x :: e))).Perm (x :: (a ++ (b ++ (c ++ e)))) := by
  have h1 : (c ++ x :: e).Perm (x :: (c ++ e)) := List.perm_middle
  have h2 : (b ++ (c ++ x :: e)).Perm (x :: (b ++ (c ++ e))) := (List.Perm.append_left b h1).trans List.perm_middle
  exact (List.Perm.append_left a h2).trans List.perm_middle
theorem see_perm6 (a lb : List (Nat × Obj)) (Ll : List SlabN) (y : Nat × Obj) (e : List (Nat × Obj)) {x : SlabP} {v : Value} : (y :: (a ++ (lb ++ (slabBlocks Ll ++ e)))).Perm (a ++ ((slabBlocks Ll ++ slabBlocks [⟨x, v, lb⟩]) ++ y :: e)) := by
  have e1 : slabBlocks [⟨x, v, lb⟩] = lb := by simp [slabBlocks]
  rw [e1]
  have h1 : (lb ++ (slabBlocks Ll ++ e)).Perm (slabBlocks Ll ++ (lb ++ e)) := perm_swap lb _ e
  have h2 : ((slabBlocks Ll ++ lb) ++ y :: e).Perm (y :: ((slabBlocks Ll ++ lb) ++ e)) := List.perm_middle
  rw [List.append_assoc (slabBlocks Ll) lb e] at h2
  refine (List.Perm.cons y (List.Perm.append_left a h1)).trans ?_
  exact (List.perm_middle.symm).trans (List.Perm.append_left a h2.symm)
theorem see_perm7 {α : Type} (a l : List α) (x y z : α) (e : List α) : (a ++ (l ++ (x :: (y :: (z :: e))))).Perm (z :: (a ++ (l ++ (x :: (y :: e))))) := by
  have h1 : (x :: (y :: (z :: e))).Perm (z :: (x :: (y :: e))) := (List.Perm.cons x (List.Perm.swap _ _ _)).trans (List.Perm.swap _ _ _)
  have h2 : (l ++ (x :: (y :: (z :: e)))).Perm (z :: (l ++ (x :: (y :: e)))) := (List.Perm.append_left l h1).trans List.perm_middle
  exact (List.Perm.append_left a h2).trans List.perm_middle
theorem see_mv {α : Type} (a l p q e : List α) : (a ++ (l ++ (p ++ (q ++ e)))).Perm (q ++ (a ++ (l ++ (p ++ e)))) :=
  ((List.Perm.append_left a (List.Perm.append_left l (perm_swap p q e))).trans (List.Perm.append_left a (perm_swap l q _))).trans (perm_swap a q _)
theorem see_perm8 {α : Type} (a l p q r e : List α) : (a ++ (l ++ (p ++ (q ++ (r ++ e))))).Perm (q ++ (r ++ (p ++ (a ++ (l ++ e))))) := by
  refine (see_mv a l p q _).trans (List.Perm.append_left q ?_)
  refine (see_mv a l p r _).trans (List.Perm.append_left r ?_)
  exact (List.Perm.append_left a (perm_swap l p e)).trans (perm_swap a p _)
theorem see_sub {α : Type} (a l : List α) (x y z : α) (e : List α) : (a ++ (l ++ e)).Sublist (a ++ (l ++ (x :: (y :: (z :: e))))) :=
  (List.Sublist.refl a).append ((List.Sublist.refl l).append (((List.sublist_cons_self z e).trans (List.sublist_cons_self y _)).trans (List.sublist_cons_self x _)))
/-- what See answers -/
def SeePost (W : World) (m : List (Nat × Obj)) (r : Option CoreP) (e : Ending) (w' : World) : Prop := match r with
  | some K => ∃ v bs, e = .returned (.tuple #[v, .int .i64 0]) ∧ Hid (CoreO v K bs) ∧ Own W (bs ++ m) w'
  | none => e = .returned (.tuple #[.agg #[.slice none 0 0, .slice none 0 0, .bool false, .slice none 0 0], .int .i64 150]) ∧ Own W m w'
theorem words_eq (c : Ch) : 4 * (c.C : Int) + 4 + 4 * (c.S : Int) + (c.S : Int) * (c.O : Int) = (c.words : Int) := by
  unfold Ch.words
  push_cast
  rfl
set_option maxRecDepth 100000 in
set_option maxHeartbeats 8000000 in
theorem see_spec (h : Own W m w) (hc : COk c d e) (hw : WOk W m B o N k g c) :
    Calls Try.prog 36 #[.slice (some ⟨B, o, none⟩) N k, cV c d e] w (SeePost W m (seeP c g)) := by
  obtain ⟨n1, n2, n3, n4, n5, n6⟩ := hc.nums
  have h1 := (h.new (.cells #[.int .i64 c.C, .int .i64 c.S, .int .i64 c.O, .int .i64 d, .int .i64 e, .int .u64 c.key] 24)).new (.cells #[.slice none 0 0, .slice none 0 0, .bool false, .slice none 0 0] 40)
  obtain ⟨b, hb⟩ : ∃ b, w.heap.size = b := ⟨_, rfl⟩
  simp only [World.size_alloc] at h1
  rw [hb] at h1
  have h1 : Own W (kBlk (b + 1) (.slice none 0 0) (.slice none 0 0) false (.slice none 0 0) :: (chB b c.C c.S c.O d e c.key :: m)) _ := h1
  obtain ⟨y0, y1, y2, y3, y4, y5⟩ := box6 h1.skip
  have hN := hw.n
  have hwq := words_eq c
  rw [← hN] at hwq
  have hn32 : 32 ≤ N ∨ N < 32 := by omega
  obtain ⟨p, hp⟩ : ∃ p : Nat, 4 * c.C = p := ⟨_, rfl⟩
  have hpi : 4 * (c.C : Int) = (p : Int) := by omega
  obtain ⟨p1, hpp1⟩ : ∃ p1 : Nat, p + 1 = p1 := ⟨_, rfl⟩
  have hpi1 : 4 * (c.C : Int) + 1 = (p1 : Int) := by omega
  have hpN : p1 < N := by rw [hN]; unfold Ch.words; omega
  have hp2 : (0 : Int) ≤ (p1 : Int) := by omega
  have hp3 : (p1 : Int) < (N : Int) := by omega
  have HPI := Lib.hid hpi
  have HPI1 := Lib.hid hpi1
  have hp0 : (0 : Int) ≤ (p : Int) := by omega
  have hp1 : (p : Int) < (N : Int) := by omega
  obtain ⟨x0, hx0⟩ : ∃ x, g[p]? = some x := ⟨_, List.getElem?_eq_getElem (by rw [hw.len]; omega)⟩
  obtain ⟨x1, hx1⟩ : ∃ x, g[p1]? = some x := ⟨_, List.getElem?_eq_getElem (by rw [hw.len]; omega)⟩
  have a0 : at_ g (4 * c.C) = x0 := by unfold at_; rw [hp, List.getD_eq_getElem?_getD, hx0]; rfl
  have a1 : at_ g (4 * c.C + 1) = x1 := by unfold at_; rw [hp, hpp1, List.getD_eq_getElem?_getD, hx1]; rfl
  have HG : Hid (∀ ws, Own W m ws → ws.cell? ⟨B, o + p, none⟩ = some (.int .u64 (x0 : Int)) ∧ ws.cell? ⟨B, o + p1, none⟩ = some (.int .u64 (x1 : Int))) := fun ws hws => ⟨hw.rd ws hws p x0 hx0, hw.rd ws hws p1 x1 hx1⟩
  have HX1 : Hid (x1 < 18446744073709551616) := hw.w64 x1 (List.mem_of_getElem? hx1)
  obtain ⟨lk, hlk⟩ : ∃ lk, decide (x0 ≠ 0) = lk := ⟨_, rfl⟩
  have hlk2 : ((x0 : Int) != 0) = lk := by
    rw [← hlk]
    by_cases h0 : x0 = 0
    · subst h0; rfl
    · have : (x0 : Int) ≠ 0 := by omega
      simp [h0, this]
  have hR : seeP c g = match upto (slotP c g) c.C with
      | none => none
      | some a => match shelfP c g with
        | none => none
        | some l => match upto (slabP c g) c.S with
          | none => none
          | some b => some ⟨a, l, lk, b⟩ := by
    unfold seeP
    rw [a0, hlk]
    rfl
  obtain ⟨R, hRR⟩ : ∃ R, seeP c g = R := ⟨_, rfl⟩
  rw [hRR] at hR ⊢
  have HR := Lib.hid hR
  have HA1 := Lib.hid a1
  have HC := Lib.hid hc
  have HW := Lib.hid hw
  have HWQ := Lib.hid hwq
  have H1 := Lib.hid h1
  clear hpp1 hN hp hpi hpi1 hx0 hx1 a0 a1 hw hc h1 h hn32 hlk hR hRR hwq
  unfold cV chV
  go_enter Try.func36, Try.ntmps36
  go_wp2_with fail
  refine (Apart.check_ok HC.out.ok H1.out).mono ?_
  rintro r w2 ⟨rfl, h2⟩
  clear y0 y1 y2 y3 y4 y5
  obtain ⟨y0, y1, y2, y3, y4, y5⟩ := box6 h2.skip
  go_wp2_with fail
  refine (Apart.words_ok HC.out.ok h2).mono ?_
  rintro r w3 ⟨rfl, h3⟩
  rw [HWQ.out]
  clear y0 y1 y2 y3 y4 y5 h2
  obtain ⟨y0, y1, y2, y3, y4, y5⟩ := box6 h3.skip
  have h4 := h3.new (.cells #[.slice (some ⟨B, o, none⟩) N k, .int .i64 c.C, .int .i64 c.S, .int .i64 c.O, .int .i64 d, .int .i64 e, .int .u64 c.key] 84)
  obtain ⟨q, hq⟩ : ∃ q, w3.heap.size = q := ⟨_, rfl⟩
  rw [hq] at h4
  have h4 : Own W (rBlk q B o N k c d e :: (kBlk (b + 1) (.slice none 0 0) (.slice none 0 0) false (.slice none 0 0) :: (chB b c.C c.S c.O d e c.key :: m))) _ := h4
  obtain ⟨v0, v1, v2, v3, v4, v5⟩ := box6 h4.skip.skip
  go_wp2_with fail
  refine (Apart.lock_ok HC.out.ok h4).mono ?_
  rintro r w5 ⟨rfl, h5⟩
  rw [HPI.out]
  clear y0 y1 y2 y3 y4 y5 v0 v1 v2 v3 v4 v5 hq h3 h4
  obtain ⟨q0, q1⟩ := HG.out _ h5.skip.skip.skip
  have h6 := h5.new (.cells #[.slice none 0 0, .slice none 0 0, .bool lk, .slice none 0 0] 40)
  obtain ⟨t, ht⟩ : ∃ t, w5.heap.size = t := ⟨_, rfl⟩
  rw [ht] at h6
  have h6 : Own W (kBlk t (.slice none 0 0) (.slice none 0 0) lk (.slice none 0 0) :: (rBlk q B o N k c d e :: (kBlk (b + 1) (.slice none 0 0) (.slice none 0 0) false (.slice none 0 0) :: (chB b c.C c.S c.O d e c.key :: m)))) _ := h6
  obtain ⟨y0, y1, y2, y3, y4, y5⟩ := box6 h6.skip.skip.skip
  go_wp2_with fail
  have H6 := Lib.hid h6
  clear q0 q1 ht h5 h6 y0 y1 y2 y3 y4 y5
  go_loopw [39] (fun iv wr => ∃ (i : Nat) (Ls : List SlotN) (sv : Value) (b0 : List (Nat × Obj)), iv = .int .i64 i ∧ i ≤ c.C ∧ Hid (Ls.length = i) ∧ Hid (upto (slotP c g) i = some (Ls.map (·.x))) ∧ Hid (SlotsOk Ls) ∧ Hid (SlotsV sv Ls b0) ∧ Own W (b0 ++ (slotBlocks Ls ++ (kBlk t sv (.slice none 0 0) lk (.slice none 0 0) :: (rBlk q B o N k c d e :: (kBlk (b + 1) (.slice none 0 0) (.slice none 0 0) false (.slice none 0 0) :: (chB b c.C c.S c.O d e c.key :: m)))))) wr) (fun iv _ => c.C - (intOf iv).toNat)
  case atStart => exact ⟨0, [], .slice none 0 0, [], rfl, by omega, rfl, rfl, (fun s hs => by cases hs), SlO.nil _ _ _, H6.out⟩
  case round =>
    clear H6
    obtain ⟨i, Ls, sv, b0, rfl, hi, HLI, HUP, HSO, HSV, hr⟩ := hrel
    obtain ⟨A0, c0, hv0, -, -⟩ := HSV.out.slice
    rw [HLI.out] at hv0
    subst hv0
    have HSV2 : Hid (SlO true 78 4 (.slice A0 i c0) i (slotCells Ls) b0) := by have := HSV.out; unfold SlotsV at this; rw [HLI.out] at this; exact this
    by_cases hlt : i < c.C
    · have hlti : (i : Int) < (c.C : Int) := by omega
      have hsl := rslot_spec hr HC.out (((HW.out.more (m' := [kBlk t (.slice A0 i c0) (.slice none 0 0) lk (.slice none 0 0), rBlk q B o N k c d e, kBlk (b + 1) (.slice none 0 0) (.slice none 0 0) false (.slice none 0 0), chB b c.C c.S c.O d e c.key])).more (m' := slotBlocks Ls)).more (m' := b0)) i hlt
      obtain ⟨y0, y1, y2, y3, y4, y5, y6⟩ := box7 hr.dropL.dropL.skip
      cases hsp : slotP c g i with
      | none =>
        rw [hsp] at hsl
        have HSL := Lib.hid hsl
        have hnone : upto (slotP c g) c.C = none := upto_none hsp hlt
        have hk := HR.out
        rw [hnone] at hk
        simp only at hk
        subst hk
        clear hsl hsp hnone
        go_wp2_with fail
        refine HSL.out.mono ?_
        rintro r w7 ⟨rfl, h7⟩
        clear y0 y1 y2 y3 y4 y5 y6
        have h8 := h7.alloc (.cells #[.int .i64 0, .slice none 0 0, .int .u64 0, .slice none 0 0] 78)
        obtain ⟨⟨z0, z1, z2, z3⟩, ⟨f0, f1, f2, f3⟩⟩ := boxK h8.dropL.dropL.skip.skip
        go_wp2_with fail
        have h9 := kset (sv' := .slice none 0 0) (hv' := .slice none 0 0) (l' := false) (lv' := .slice none 0 0) h8.dropL.dropL.skip.skip
        obtain ⟨⟨e0, e1, e2, e3⟩, -⟩ := boxK h9
        exact bodyPost_ret (v := .tuple #[.agg #[.slice none 0 0, .slice none 0 0, .bool false, .slice none 0 0], .int .i64 150]) (by simp [results, Try.f36, go_sem, e0, e1, e2, e3]) rfl ⟨rfl, h9.skip.skip⟩
      | some x =>
        rw [hsp] at hsl
        have HSL := Lib.hid hsl
        have HUP2 := Lib.hid (upto_step HUP.out hsp)
        clear hsl hsp
        go_wp2_with fail
        refine HSL.out.mono ?_
        rintro r w7 ⟨lv, lb, pv, pb, rfl, KL, KP, h7⟩
        obtain ⟨A1, c1, hv1, -, -⟩ := KL.out.slice
        obtain ⟨A2, c2, hv2, -, -⟩ := KP.out.slice
        obtain ⟨l1, hl1⟩ : ∃ l1, x.list.length = l1 := ⟨_, rfl⟩
        obtain ⟨l2, hl2⟩ : ∃ l2, x.parts.length = l2 := ⟨_, rfl⟩
        rw [hl1] at hv1
        rw [hl2] at hv2
        subst hv1 hv2
        clear y0 y1 y2 y3 y4 y5 y6 hl1 hl2
        have h8 : Own W (b0 ++ (lb ++ (pb ++ (slotBlocks Ls ++ (kBlk t (.slice A0 i c0) (.slice none 0 0) lk (.slice none 0 0) :: (rBlk q B o N k c d e :: (kBlk (b + 1) (.slice none 0 0) (.slice none 0 0) false (.slice none 0 0) :: (chB b c.C c.S c.O d e c.key :: m)))))))) w7 := h7.perm (see_perm1 _ _ _ _)
        have h9 := h8.alloc (.cells #[.int .i64 x.slab, .slice A1 l1 c1, .int .u64 x.turn, .slice A2 l2 c2] 78)
        have H10 := Lib.hid (h9.alloc (.cells #[.int .i64 x.slab, .slice A1 l1 c1, .int .u64 x.turn, .slice A2 l2 c2] 78))
        have hsrc := src_vals (w7.alloc (.cells #[.int .i64 x.slab, .slice A1 l1 c1, .int .u64 x.turn, .slice A2 l2 c2] 78)) 78 [.int .i64 x.slab, .slice A1 l1 c1, .int .u64 x.turn, .slice A2 l2 c2]
        rw [World.size_alloc] at hsrc
        have HSRC := Lib.hid hsrc
        have hone : ∀ u ∈ [Value.int .i64 x.slab, .slice A1 l1 c1, .int .u64 x.turn, .slice A2 l2 c2], u.oneCell' = true := by
          intro u hu
          simp at hu
          rcases hu with rfl | rfl | rfl | rfl <;> rfl
        have HONE := Lib.hid hone
        obtain ⟨⟨z0, z1, z2, z3⟩, ⟨f0, f1, f2, f3⟩⟩ := boxK h9.dropL.dropL.dropL.dropL
        clear hsrc hone h7 h8 h9
        go_wp2_with (at_builtin; refine app_struct rfl _ _ 37 rfl rfl rfl _ slot_info Try.underlying37 rfl (by omega) (by omega) HSV2.out H10.out HSRC.out HONE.out (by omega) ?_; intro v' w' bs' k1 k2; have K1 := Lib.hid k1; obtain ⟨A9, c9, hv9, -, -⟩ := k1.slice; subst hv9; have K2 := Lib.hid k2; clear z0 z1 z2 z3 f0 f1 f2 f3; obtain ⟨⟨z0, z1, z2, z3⟩, ⟨f0, f1, f2, f3⟩⟩ := boxK k2.dropL.dropL.dropL.dropL; clear k1 k2)
        have hst := (kset0 (sv' := .slice A9 (i + 1) c9) (K2.out.perm (see_perm2 _ _ _ _ _ _)))
        refine ⟨⟨i + 1, Ls ++ [⟨x, .slice A1 l1 c1, lb, .slice A2 l2 c2, pb⟩], .slice A9 (i + 1) c9, bs', by go_num, by omega, ?_, ?_, ?_, ?_, ?_⟩, by simp [intOf]; omega⟩
        · show _ = _
          rw [List.length_append, HLI.out]
          rfl
        · show _ = _
          rw [List.map_append]
          exact HUP2.out
        · show SlotsOk _
          intro s hs
          rcases List.mem_append.1 hs with hs | hs
          · exact HSO.out s hs
          · rw [List.mem_singleton] at hs
            subst hs
            exact ⟨KL.out, KP.out⟩
        · show SlotsV _ _ _
          unfold SlotsV
          rw [List.length_append, HLI.out, slotCells_append]
          exact K1.out
        · refine hst.perm ?_
          rw [slotBlocks_append]
          exact see_perm3 _ _ _ _ _ _
    · have hiC : i = c.C := by omega
      subst hiC
      have hlti : ¬ (c.C : Int) < (c.C : Int) := by omega
      have hch := fun ws (hws : Own W (b0 ++ (slotBlocks Ls ++ (kBlk t (.slice A0 c.C c0) (.slice none 0 0) lk (.slice none 0 0) :: (rBlk q B o N k c d e :: (kBlk (b + 1) (.slice none 0 0) (.slice none 0 0) false (.slice none 0 0) :: (chB b c.C c.S c.O d e c.key :: m)))))) ws) => rchain_s hws HC.out (((HW.out.more (m' := [kBlk t (.slice A0 c.C c0) (.slice none 0 0) lk (.slice none 0 0), rBlk q B o N k c d e, kBlk (b + 1) (.slice none 0 0) (.slice none 0 0) false (.slice none 0 0), chB b c.C c.S c.O d e c.key])).more (m' := slotBlocks Ls)).more (m' := b0)) x1 HX1.out
      have hpe : chain shelfOf (nextAt c g) c.S (c.S + 1) [] x1 = shelfP c g := by
        unfold shelfP
        rw [HA1.out]
      rw [hpe] at hch
      have HRW := Lib.hid hr
      obtain ⟨y0, y1, y2, y3, y4, y5, y6⟩ := box7 hr.dropL.dropL.skip; obtain ⟨v0, v1, v2, v3, v4, v5⟩ := box6 hr.dropL.dropL.skip.skip.skip; obtain ⟨q0, q1⟩ := HG.out _ hr.dropL.dropL.skip.skip.skip.skip
      have hk := HR.out
      rw [HUP.out] at hk
      simp only at hk
      clear hpe hr
      cases hsh : shelfP c g with
      | none =>
        rw [hsh] at hch hk
        simp only at hk
        subst hk
        have HCH := Lib.hid hch
        clear hch hsh
        go_wp2_with fail
        go_region_held3 (fun w' => (w'.cell? ⟨q, 0, none⟩ = some (.slice (some ⟨B, o, none⟩) N k) ∧ w'.cell? ⟨q, 1, none⟩ = some (.int .i64 c.C) ∧ w'.cell? ⟨q, 2, none⟩ = some (.int .i64 c.S) ∧ w'.cell? ⟨q, 3, none⟩ = some (.int .i64 c.O) ∧ w'.cell? ⟨q, 4, none⟩ = some (.int .i64 d) ∧ w'.cell? ⟨q, 5, none⟩ = some (.int .i64 e) ∧ w'.cell? ⟨q, 6, none⟩ = some (.int .u64 c.key)) ∧ (w'.cell? ⟨b, 0, none⟩ = some (.int .i64 c.C) ∧ w'.cell? ⟨b, 1, none⟩ = some (.int .i64 c.S) ∧ w'.cell? ⟨b, 2, none⟩ = some (.int .i64 c.O) ∧ w'.cell? ⟨b, 3, none⟩ = some (.int .i64 d) ∧ w'.cell? ⟨b, 4, none⟩ = some (.int .i64 e) ∧ w'.cell? ⟨b, 5, none⟩ = some (.int .u64 c.key)) ∧ w'.cell? ⟨B, o + p1, none⟩ = some (.int .u64 (x1 : Int))) (first | (refine ⟨⟨?_, ?_, ?_, ?_, ?_, ?_, ?_⟩, ⟨?_, ?_, ?_, ?_, ?_, ?_⟩, ?_⟩ <;> assumption) | go_keep)
          (first | (go_at_call 16; refine (Apart.shelf_ok HC.out.ok HRW.out.drew).mono ?_; rintro r w7 ⟨rfl, h7⟩; rw [HPI1.out]; obtain ⟨y0, y1, y2, y3, y4, y5, y6⟩ := box7 h7.dropL.dropL.skip; obtain ⟨v0, v1, v2, v3, v4, v5⟩ := box6 h7.dropL.dropL.skip.skip.skip; obtain ⟨q0, q1⟩ := HG.out _ h7.dropL.dropL.skip.skip.skip.skip) |
            (go_at_call 65; refine (HCH.out _ h7).mono ?_; rintro r w8 ⟨rfl, h8⟩; obtain ⟨y0, y1, y2, y3, y4, y5, y6⟩ := box7 h8.dropL.dropL.skip; obtain ⟨v0, v1, v2, v3, v4, v5⟩ := box6 h8.dropL.dropL.skip.skip.skip; obtain ⟨q0, q1⟩ := HG.out _ h8.dropL.dropL.skip.skip.skip.skip))
        clear y0 y1 y2 y3 y4 y5 y6 v0 v1 v2 v3 v4 v5 q0 q1
        obtain ⟨⟨z0, z1, z2, z3⟩, ⟨f0, f1, f2, f3⟩⟩ := boxK h8.dropL.dropL.skip.skip
        go_wp2_with fail
        have h9 := kset (sv' := .slice none 0 0) (hv' := .slice none 0 0) (l' := false) (lv' := .slice none 0 0) h8.dropL.dropL.skip.skip
        obtain ⟨⟨e0, e1, e2, e3⟩, -⟩ := boxK h9
        exact bodyPost_ret (v := .tuple #[.agg #[.slice none 0 0, .slice none 0 0, .bool false, .slice none 0 0], .int .i64 150]) (by simp [results, Try.f36, go_sem, e0, e1, e2, e3]) rfl ⟨rfl, h9.skip.skip⟩
      | some sl =>
        rw [hsh] at hch hk
        simp only at hk
        have HCH := Lib.hid hch
        have HK := Lib.hid hk
        clear hch hsh hk
        go_wp2_with fail
        go_region_held3 (fun w' => (w'.cell? ⟨q, 0, none⟩ = some (.slice (some ⟨B, o, none⟩) N k) ∧ w'.cell? ⟨q, 1, none⟩ = some (.int .i64 c.C) ∧ w'.cell? ⟨q, 2, none⟩ = some (.int .i64 c.S) ∧ w'.cell? ⟨q, 3, none⟩ = some (.int .i64 c.O) ∧ w'.cell? ⟨q, 4, none⟩ = some (.int .i64 d) ∧ w'.cell? ⟨q, 5, none⟩ = some (.int .i64 e) ∧ w'.cell? ⟨q, 6, none⟩ = some (.int .u64 c.key)) ∧ (w'.cell? ⟨b, 0, none⟩ = some (.int .i64 c.C) ∧ w'.cell? ⟨b, 1, none⟩ = some (.int .i64 c.S) ∧ w'.cell? ⟨b, 2, none⟩ = some (.int .i64 c.O) ∧ w'.cell? ⟨b, 3, none⟩ = some (.int .i64 d) ∧ w'.cell? ⟨b, 4, none⟩ = some (.int .i64 e) ∧ w'.cell? ⟨b, 5, none⟩ = some (.int .u64 c.key)) ∧ w'.cell? ⟨B, o + p1, none⟩ = some (.int .u64 (x1 : Int))) (first | (refine ⟨⟨?_, ?_, ?_, ?_, ?_, ?_, ?_⟩, ⟨?_, ?_, ?_, ?_, ?_, ?_⟩, ?_⟩ <;> assumption) | go_keep)
          (first | (go_at_call 16; refine (Apart.shelf_ok HC.out.ok HRW.out.drew).mono ?_; rintro r w7 ⟨rfl, h7⟩; rw [HPI1.out]; obtain ⟨y0, y1, y2, y3, y4, y5, y6⟩ := box7 h7.dropL.dropL.skip; obtain ⟨v0, v1, v2, v3, v4, v5⟩ := box6 h7.dropL.dropL.skip.skip.skip; obtain ⟨q0, q1⟩ := HG.out _ h7.dropL.dropL.skip.skip.skip.skip) |
            (go_at_call 65; refine (HCH.out _ h7).mono ?_; rintro r w8 ⟨hv, b1, rfl, KH, h8⟩; obtain ⟨y0, y1, y2, y3, y4, y5, y6⟩ := box7 h8.dropL.dropL.dropL.skip; obtain ⟨v0, v1, v2, v3, v4, v5⟩ := box6 h8.dropL.dropL.dropL.skip.skip.skip; obtain ⟨q0, q1⟩ := HG.out _ h8.dropL.dropL.dropL.skip.skip.skip.skip))
        obtain ⟨A3, c3, hhv, -, -⟩ := KH.out.slice
        obtain ⟨l3, hl3⟩ : ∃ l3, sl.length = l3 := ⟨_, rfl⟩
        rw [hl3] at hhv
        subst hhv
        have h9 := h8.perm (see_perm4 _ _ _ _ _ _ _ _)
        have h10 := kset1 (hv' := .slice A3 l3 c3) h9
        clear y0 y1 y2 y3 y4 y5 y6 v0 v1 v2 v3 v4 v5 q0 q1 hl3 h7 h8
        obtain ⟨⟨z0, z1, z2, z3⟩, ⟨f0, f1, f2, f3⟩⟩ := boxK h9
        obtain ⟨v0, v1, v2, v3, v4, v5⟩ := box6 h10.skip.skip.skip
        go_wp2_with fail
        obtain ⟨wz, hwz⟩ : ∃ wz, w8.setCell ⟨t, 1, none⟩ (.slice A3 l3 c3) = wz := ⟨_, rfl⟩
        rw [hwz] at h10 ⊢
        have H10 := Lib.hid h10
        clear z0 z1 z2 z3 f0 f1 f2 f3 v0 v1 v2 v3 v4 v5 h9 h10 hwz
        obtain ⟨w0, hw0⟩ : ∃ w0 : World, w0 = wr := ⟨_, rfl⟩
        subst hw0
        go_loopw [75] (fun iv wr => ∃ (i : Nat) (Ll : List SlabN) (lv : Value) (b2 : List (Nat × Obj)), iv = .int .i64 i ∧ i ≤ c.S ∧ Hid (Ll.length = i) ∧ Hid (upto (slabP c g) i = some (Ll.map (·.x))) ∧ Hid (SlabsOk Ll) ∧ Hid (SlabsV lv Ll b2) ∧ Own W (b2 ++ (slabBlocks Ll ++ (kBlk t (.slice A0 c.C c0) (.slice A3 l3 c3) lk lv :: (rBlk q B o N k c d e :: (kBlk (b + 1) (.slice none 0 0) (.slice none 0 0) false (.slice none 0 0) :: (chB b c.C c.S c.O d e c.key :: (b1 ++ (b0 ++ (slotBlocks Ls ++ m))))))))) wr) (fun iv _ => c.S - (intOf iv).toNat)
        case atStart => exact ⟨0, [], .slice none 0 0, [], rfl, by omega, rfl, rfl, (fun s hs => by cases hs), SlO.nil _ _ _, H10.out⟩
        case round =>
          clear H10
          obtain ⟨i, Ll, lv, b2, rfl, hi2, HLI2, HUP2, HLO, HLV, hr⟩ := hrel
          obtain ⟨A4, c4, hv4, -, -⟩ := HLV.out.slice
          rw [HLI2.out] at hv4
          subst hv4
          have HLV2 : Hid (SlO true 82 5 (.slice A4 i c4) i (slabCells Ll) b2) := by have := HLV.out; unfold SlabsV at this; rw [HLI2.out] at this; exact this
          by_cases hlt2 : i < c.S
          · have hlti2 : (i : Int) < (c.S : Int) := by omega
            have hsl := rslab_spec hr HC.out ((((((HW.out.more (m' := slotBlocks Ls)).more (m' := b0)).more (m' := b1)).more (m' := [kBlk t (.slice A0 c.C c0) (.slice A3 l3 c3) lk (.slice A4 i c4), rBlk q B o N k c d e, kBlk (b + 1) (.slice none 0 0) (.slice none 0 0) false (.slice none 0 0), chB b c.C c.S c.O d e c.key])).more (m' := slabBlocks Ll)).more (m' := b2)) i hlt2
            obtain ⟨y0, y1, y2, y3, y4, y5, y6⟩ := box7 hr.dropL.dropL.skip
            cases hsp : slabP c g i with
            | none =>
              rw [hsp] at hsl
              have HSL := Lib.hid hsl
              have hnone : upto (slabP c g) c.S = none := upto_none hsp hlt2
              have hk := HK.out
              rw [hnone] at hk
              simp only at hk
              subst hk
              clear hsl hsp hnone
              go_wp2_with fail
              refine HSL.out.mono ?_
              rintro r w9 ⟨rfl, h9⟩
              clear y0 y1 y2 y3 y4 y5 y6
              have h11 := h9.alloc (.cells #[.int .i64 0, .int .i64 0, .bool false, .bool false, .slice none 0 0] 82)
              obtain ⟨⟨z0, z1, z2, z3⟩, ⟨f0, f1, f2, f3⟩⟩ := boxK h11.dropL.dropL.skip.skip
              go_wp2_with fail
              have h12 := kset (sv' := .slice none 0 0) (hv' := .slice none 0 0) (l' := false) (lv' := .slice none 0 0) h11.dropL.dropL.skip.skip
              obtain ⟨⟨e0, e1, e2, e3⟩, -⟩ := boxK h12
              exact bodyPost_ret (v := .tuple #[.agg #[.slice none 0 0, .slice none 0 0, .bool false, .slice none 0 0], .int .i64 150]) (by simp [results, Try.f36, go_sem, e0, e1, e2, e3]) rfl ⟨rfl, h12.skip.skip.dropL.dropL.dropL⟩
            | some x =>
              rw [hsp] at hsl
              have HSL := Lib.hid hsl
              have HUP3 := Lib.hid (upto_step HUP2.out hsp)
              clear hsl hsp
              go_wp2_with fail
              refine HSL.out.mono ?_
              rintro r w9 ⟨lv, lb, rfl, KL, h9⟩
              obtain ⟨A1, c1, hv1, -, -⟩ := KL.out.slice
              obtain ⟨l1, hl1⟩ : ∃ l1, x.first.length = l1 := ⟨_, rfl⟩
              rw [hl1] at hv1
              subst hv1
              clear y0 y1 y2 y3 y4 y5 y6 hl1
              have h11 : Own W (b2 ++ (lb ++ (slabBlocks Ll ++ (kBlk t (.slice A0 c.C c0) (.slice A3 l3 c3) lk (.slice A4 i c4) :: (rBlk q B o N k c d e :: (kBlk (b + 1) (.slice none 0 0) (.slice none 0 0) false (.slice none 0 0) :: (chB b c.C c.S c.O d e c.key :: (b1 ++ (b0 ++ (slotBlocks Ls ++ m)))))))))) w9 := h9.swap
              have h12 := h11.alloc (.cells #[.int .i64 x.counts.inuse, .int .i64 x.counts.objects, .bool x.counts.frozen, .bool x.counts.live, .slice A1 l1 c1] 82)
              have H13 := Lib.hid (h12.alloc (.cells #[.int .i64 x.counts.inuse, .int .i64 x.counts.objects, .bool x.counts.frozen, .bool x.counts.live, .slice A1 l1 c1] 82))
              have hsrc := src_vals (w9.alloc (.cells #[.int .i64 x.counts.inuse, .int .i64 x.counts.objects, .bool x.counts.frozen, .bool x.counts.live, .slice A1 l1 c1] 82)) 82 [.int .i64 x.counts.inuse, .int .i64 x.counts.objects, .bool x.counts.frozen, .bool x.counts.live, .slice A1 l1 c1]
              rw [World.size_alloc] at hsrc
              have HSRC := Lib.hid hsrc
              have hone : ∀ u ∈ ([.int .i64 x.counts.inuse, .int .i64 x.counts.objects, .bool x.counts.frozen, .bool x.counts.live, .slice A1 l1 c1] : List Value), u.oneCell' = true := by
                intro u hu
                simp at hu
                rcases hu with rfl | rfl | rfl | rfl | rfl <;> rfl
              have HONE := Lib.hid hone
              obtain ⟨⟨z0, z1, z2, z3⟩, ⟨f0, f1, f2, f3⟩⟩ := boxK h12.dropL.dropL.dropL
              clear hsrc hone h9 h11 h12
              go_wp2_with (at_builtin; refine app_struct rfl _ _ 38 rfl rfl rfl _ slab_info Try.underlying38 rfl (by omega) (by omega) HLV2.out H13.out HSRC.out HONE.out (by omega) ?_; intro v' w' bs' k1 k2; have K1 := Lib.hid k1; obtain ⟨A9, c9, hv9, -, -⟩ := k1.slice; subst hv9; have K2 := Lib.hid k2; clear z0 z1 z2 z3 f0 f1 f2 f3; obtain ⟨⟨z0, z1, z2, z3⟩, ⟨f0, f1, f2, f3⟩⟩ := boxK k2.dropL.dropL.dropL; clear k1 k2)
              have hst := (kset3 (lv' := .slice A9 (i + 1) c9) (K2.out.perm (see_perm5 _ _ _ _ _)))
              refine ⟨⟨i + 1, Ll ++ [⟨x, .slice A1 l1 c1, lb⟩], .slice A9 (i + 1) c9, bs', by go_num, by omega, ?_, ?_, ?_, ?_, ?_⟩, by simp [intOf]; omega⟩
              · show _ = _
                rw [List.length_append, HLI2.out]
                rfl
              · show _ = _
                rw [List.map_append]
                exact HUP3.out
              · show SlabsOk _
                intro s hs
                rcases List.mem_append.1 hs with hs | hs
                · exact HLO.out s hs
                · rw [List.mem_singleton] at hs
                  subst hs
                  exact KL.out
              · show SlabsV _ _ _
                unfold SlabsV
                rw [List.length_append, HLI2.out, slabCells_append]
                exact K1.out
              · refine hst.perm ?_
                rw [slabBlocks_append]
                exact see_perm6 _ _ _ _ _
          · have hiS : i = c.S := by omega
            subst hiS
            have hlti2 : ¬ (c.S : Int) < (c.S : Int) := by omega
            have hk := HK.out
            rw [HUP2.out] at hk
            simp only at hk
            have HK2 := Lib.hid hk
            have ht2 := hr.dropL.dropL
            obtain ⟨⟨z0, z1, z2, z3⟩, ⟨f0, f1, f2, f3⟩⟩ := boxK ht2
            obtain ⟨⟨g0, g1, g2, g3⟩, ⟨u0, u1, u2, u3⟩⟩ := boxK ht2.skip.skip
            clear hk
            go_wp2_with fail
            have hx := hr.perm (see_perm7 _ _ _ _ _ _)
            have h9 := kset (sv' := .slice A0 c.C c0) (hv' := .slice A3 l3 c3) (l' := lk) (lv' := .slice A4 c.S c4) hx
            obtain ⟨⟨e0, e1, e2, e3⟩, -⟩ := boxK h9
            rw [HK2.out]
            refine bodyPost_ret (v := .tuple #[.agg #[.slice A0 c.C c0, .slice A3 l3 c3, .bool lk, .slice A4 c.S c4], .int .i64 0]) (by simp [results, Try.f36, go_sem, e0, e1, e2, e3]) rfl ?_
            refine ⟨_, b0 ++ (slotBlocks Ls ++ (b1 ++ (b2 ++ slabBlocks Ll))), rfl, ⟨Ls, .slice A0 c.C c0, b0, .slice A3 l3 c3, b1, Ll, .slice A4 c.S c4, b2, rfl, rfl, HSO.out, HSV.out, KH.out, rfl, HLO.out, HLV.out, rfl⟩, ?_⟩
            rw [List.append_assoc, List.append_assoc, List.append_assoc, List.append_assoc]
            exact (h9.skip.sub (see_sub _ _ _ _ _ _)).perm (see_perm8 _ _ _ _ _ _)
end
end Go.Proofs.Ytigakendeghoaaa.See

/-
  Slices of words (uint64): what they read as, append, wainscotref00.EqWords; a slice that came in, with its reach. No condition but sizes.
-/
namespace Go.Proofs.Ytigakendeghoaaa
open Go.RowKit

theorem word_info : (Try.prog.info? 22).map (fun i => (i.zero, i.size, i.bytes)) = some (some (.int .u64 0), 1, 8) := by kernel_rfl
/-- words as values -/
def words (l : List Nat) : List Value := l.map fun (n : Nat) => .int .u64 (n : Int)
theorem words_len (l : List Nat) : (words l).length = l.length := by simp [words]
theorem words_get {l : List Nat} {i n : Nat} (h : l[i]? = some n) : (words l)[i]? = some (.int .u64 (n : Int)) := by simp [words, h]
theorem words_one (l : List Nat) : ∀ u ∈ words l, u.oneCell' = true := by
  intro u hu
  obtain ⟨n, _, rfl⟩ := List.mem_map.1 hu
  rfl
theorem words_append (a b : List Nat) : words a ++ words b = words (a ++ b) := by simp [words]
/-- a slice of words that the call owns -/
abbrev WordsOwn (ex : Bool) (v : Value) (l : List Nat) (bs : List (Nat × Obj)) : Prop := SlO ex 22 1 v l.length (words l) bs
/-- a slice that reads as words -/
abbrev WordsSrc (w : World) (v : Value) (l : List Nat) : Prop := Src w 1 v l.length (words l)
section
variable {W w : World} {m bs : List (Nat × Obj)} {v x : Value} {l l' : List Nat}
/-- append, of words -/
theorem wpList_app_words {ops : Array Oper} {rest : List Oper} {o : Oper} {a : Act} {Q : Exit → Act → World → Prop} (hgd : o.guard = none) (s x : Operand)
    (ho : o.op = .call { callee := .builtin .append, args := #[s, x], argTypes := #[35, 35] }) {v xv : Value} (hes : a.eval s = v) (hex : a.eval x = xv)
    (hs : WordsOwn true v l bs) (hO : Own W (bs ++ m) w) (hx : WordsSrc w xv l') (hlen : (l.length + l'.length) * 8 ≤ 140737488351232)
    (h : ∀ v' w' bs', WordsOwn true v' (l ++ l') bs' → Own W (bs' ++ m) w' → (v' = .slice none 0 0 ↔ v = .slice none 0 0 ∧ l' = []) → wpList Try.prog ops Q rest (a.put o.dst v') w') :
    wpList Try.prog ops Q (o :: rest) a w := by
  obtain ⟨i, hi, hz, hsz, hb⟩ := info_get word_info
  refine wpList_app hgd s x _ ho hes hex 22 i _ 1 8 Try.underlying35 hi hz hsz hb rfl (by omega) hs hO hx (words_one l') (by unfold maxLen; omega) (by omega) fun v' w' bs' h1 h2 h3 => ?_
  rw [words_append, ← List.length_append] at h1
  exact h v' w' bs' h1 h2 (by rw [h3, List.length_eq_zero_iff])
theorem WordsSrc.slice (h : WordsSrc w v l) : ∃ A c, v = .slice A l.length c := by
  rcases h.2 with ⟨rfl, hn⟩ | ⟨a, c, rfl, -⟩
  · exact ⟨none, 0, by rw [hn]⟩
  · exact ⟨_, _, rfl⟩
set_option maxHeartbeats 1000000 in
/-- two slices that read as the same words -/
theorem eqWords_same {v1 v2 : Value} (h1 : WordsSrc w v1 l) (h2 : WordsSrc w v2 l) (hl : l.length * 8 ≤ 140737488351232) :
    Calls Try.prog 39 #[v1, v2] w fun e w' => e = .returned (.bool true) ∧ ∃ n, w' = w.drewN n := by
  obtain ⟨A1, c1, rfl⟩ := h1.slice
  obtain ⟨A2, c2, rfl⟩ := h2.slice
  obtain ⟨n, hn⟩ : ∃ n, l.length = n := ⟨_, rfl⟩
  have H1 := Lib.hid h1
  have H2 := Lib.hid h2
  have HN := Lib.hid hn
  rw [hn] at hl
  rw [hn]
  have hb : ((n : Int) != (n : Int)) = false := by simp
  clear h1 h2 hn
  go_enter Try.func39, Try.ntmps39
  go_wp2_with fail
  go_loopw [5] (fun k wr => ∃ i : Nat, i ≤ n ∧ k = .int .i64 i ∧ ∃ n, wr = w.drewN n) (fun k _ => n - (intOf k).toNat)
  case atStart => exact ⟨0, Nat.zero_le _, rfl, 0, rfl⟩
  case round =>
    obtain ⟨i, hi, rfl, nq0, rfl⟩ := hrel
    by_cases hlt : i < n
    · rcases H1.out.2 with ⟨_, h0⟩ | ⟨a1, k1, he1, hc1⟩
      · have := HN.out; omega
      rcases H2.out.2 with ⟨_, h0⟩ | ⟨a2, k2, he2, hc2⟩
      · have := HN.out; omega
      cases he1
      cases he2
      obtain ⟨x, hx⟩ : ∃ x, l[i]? = some x := ⟨_, List.getElem?_eq_getElem (by have := HN.out; omega)⟩
      have cx := hc1 i _ (words_get hx)
      have cy := hc2 i _ (words_get hx)
      have i0 : (0 : Int) ≤ (i : Int) := by omega
      have i1 : (i : Int) < (n : Int) := by omega
      have hxb : ((x : Int) != (x : Int)) = false := by simp
      clear hx hc1 hc2
      go_wp2_with fail
      go_quiet (fail)
      go_wp2_with fail
      go_roundw
      case rel => exact ⟨i + 1, by omega, by go_num, nq0 + nq, by first | rfl | rw [World.drewN_drewN]⟩
      case measure => simp [intOf]; omega
    · obtain rfl : i = n := by omega
      go_wp2_with fail
      go_ret
      exact ⟨rfl, _, rfl⟩
end
section
open Go.ChangeShapes Go.WideShapes Go.ChangeAt
variable {H : Type} {enc : TypeId × Value → H} {P : Program} {w : World} {base : Nat} {held : Bool}
/-- a slice of words that came in: what it reads as, and its reach -/
theorem open_words {t e : TypeId} {v : Value} {d : DataW H} {p : List MemPlace} {ts : List TypeId} {ds : List (DataW H)} (hsz : (DataW.weightsEach P ts ds).all (· ≤ reachBytes) = true) {j : Nat} (hj : ts[j]? = some t) (hd : ds[j]? = some d)
    (ht : P.underlying t = some (.slice e)) (he : P.underlying e = some (.int .u64)) (hc1 : P.cellsOf e = 1) (hb8 : P.bytesOf e = 8) (hone : v.cells.toList = [v])
    (h : DataW.Trod enc P w base (fun _ => true) held t v d p) (hlt : ∀ x ∈ p, x.block < w.heap.size) :
    ∃ g : List Nat, Src w 1 v g.length (words g) ∧ (∀ x ∈ g, x < 18446744073709551616) ∧ g.length * 8 ≤ 140737488351232 ∧ ∃ A c, v = .slice A g.length c ∧ g.length ≤ c ∧ c ≤ maxLen := by
  have hks : flatKinds P 4 e = some [some .u64] := by simp [flatKinds, he]
  obtain ⟨fuel, hf⟩ := h
  have hf0 := hf
  rw [hone] at hf
  rcases Deep.open_slice ht hf with ⟨h0, _⟩ | ⟨a, len, cap, m, n', D, Pl, hcs, hb, hl, hm, hmm, hx, hi⟩
  · simp only [List.cons.injEq, and_true] at h0
    subst h0
    exact ⟨[], ⟨rfl, .inl ⟨rfl, rfl⟩⟩, by simp, by simp, none, 0, rfl, Nat.le_refl _, by unfold maxLen; omega⟩
  · simp only [List.cons.injEq, and_true] at hcs
    subst hcs
    simp only [if_true] at hmm
    subst hmm
    obtain ⟨cap, rfl⟩ : ∃ cap, cap = m := ⟨m, rfl⟩
    simp only [Prod.mk.injEq] at hx
    have hd' := hd
    rw [hx.1] at hd'
    have hr := sized_slice hsz hj hd' ht
    rw [hb8] at hr
    simp only [List.length_map, List.length_range, reachBytes] at hr
    have hcap : len * 8 ≤ 140737488351232 := by omega
    have hall : ∀ i, i < len → ∃ x : Nat, w.cell? (a.add i) = some (.int .u64 (x : Int)) ∧ x < 18446744073709551616 := by
      intro i hil
      obtain ⟨cs', hc, ht'⟩ := hi i (by omega)
      obtain ⟨u, hu, n, rfl, hwf⟩ := trod_flat n' 4 e cs' _ _ ht' hks 0 _ rfl
      obtain ⟨_, hcl, hat⟩ := World.cells?_some hc
      have := hat 0 (by omega)
      rw [Go.Deep.add_add, hc1, Nat.mul_one, Nat.add_zero, hu] at this
      have h2 : 0 ≤ n ∧ n < 18446744073709551616 := by
        simp [Lit.wf, IntKind.min, IntKind.max, IntKind.signed, IntKind.bits] at hwf
        omega
      refine ⟨n.toNat, ?_, by omega⟩
      rw [this, show ((n.toNat : Nat) : Int) = n from by omega]
    let g : List Nat := (List.range len).map fun i => if h : i < len then (hall i h).choose else 0
    have hgl : g.length = len := by simp [g]
    have hgi : ∀ i x, g[i]? = some x → ∃ h : i < len, x = (hall i h).choose := by
      intro i x hix
      have hil : i < len := by
        have := (List.getElem?_eq_some_iff.1 hix).1
        omega
      simp only [g, List.getElem?_map, List.getElem?_range hil, Option.map_some, Option.some.injEq, dif_pos hil] at hix
      exact ⟨hil, hix.symm⟩
    refine ⟨g, ⟨by rw [words_len, Nat.mul_one], .inr ⟨a, cap, by rw [hgl], fun j u hu => ?_⟩⟩, fun x hx => ?_, by rw [hgl]; exact hcap, some a, cap, by rw [hgl], by rw [hgl]; exact hl, hm⟩
    · have hjl : j < g.length := by
        have := (List.getElem?_eq_some_iff.1 hu).1
        rw [words_len] at this
        exact this
      have hg1 : g[j]? = some (g[j]'hjl) := List.getElem?_eq_getElem hjl
      rw [words_get hg1] at hu
      simp only [Option.some.injEq] at hu
      subst hu
      obtain ⟨hil, hx⟩ := hgi j _ hg1
      rw [hx]
      exact (hall j hil).choose_spec.1
    · obtain ⟨i, hi', rfl⟩ := List.getElem_of_mem hx
      obtain ⟨hil, hx⟩ := hgi i _ (List.getElem?_eq_getElem hi')
      rw [hx]
      exact (hall i hil).choose_spec.2
end
end Go.Proofs.Ytigakendeghoaaa

/-
  Contracts: package mem. No condition. (Printed by mkmem.py.)
-/
namespace Go.Proofs.Ytigakendeghoaaa.Mem
open Go.RowKit
attribute [local go_sem ↓] Go.wp_at_zero Go.wp_at_succ
/-- words, as a block's cells -/
def wRow (g : List Nat) : Array Value := (words g).toArray
theorem wRow_get {g : List Nat} {i x : Nat} (h : g[i]? = some x) : (wRow g)[i]? = some (.int .u64 (x : Int)) := by simp [wRow, words, h]
theorem wRow_set (g : List Nat) (i x : Nat) : (wRow g).setIfInBounds i (.int .u64 (x : Int)) = wRow (g.set i x) := by
  unfold wRow words
  rw [List.map_set]
  simp
/-- a memory's own block -/
def mB (b0 b1 N k : Nat) : Nat × Obj := (b0, .cells #[.slice (some ⟨b1, 0, none⟩) N N, .int .i64 (k : Int)] 70)
/-- its words' block -/
def wB (b1 : Nat) (g : List Nat) : Nat × Obj := (b1, .cells (wRow g) 22)
/-- a word in a box -/
def uB (b : Nat) (x : Int) : Nat × Obj := (b, .cells #[.int .u64 x] 22)
section
variable {W w : World} {m : List (Nat × Obj)} {b0 b1 N k b : Nat} {g : List Nat}
theorem box_m (h : Own W (mB b0 b1 N k :: m) w) : w.cell? ⟨b0, 0, none⟩ = some (.slice (some ⟨b1, 0, none⟩) N N) ∧ w.cell? ⟨b0, 1, none⟩ = some (.int .i64 (k : Int)) ∧ w.frozen? ⟨b0, 1, none⟩ = false :=
  ⟨h.cell List.mem_cons_self 0, h.cell List.mem_cons_self 1, h.frozen List.mem_cons_self 1⟩
theorem set_m (h : Own W (mB b0 b1 N k :: m) w) (k' : Nat) : Own W (mB b0 b1 N k' :: m) (w.setCell ⟨b0, 1, none⟩ (.int .i64 (k' : Int))) := h.set 1 (.int .i64 (k' : Int))
theorem cell_w (h : Own W (wB b1 g :: m) w) {i x : Nat} (hx : g[i]? = some x) : w.cell? ⟨b1, i, none⟩ = some (.int .u64 (x : Int)) ∧ w.frozen? ⟨b1, i, none⟩ = false := by
  have h1 := h.cell List.mem_cons_self i
  rw [wRow_get hx] at h1
  exact ⟨h1, h.frozen List.mem_cons_self i⟩
theorem set_w (h : Own W (wB b1 g :: m) w) (i x : Nat) : Own W (wB b1 (g.set i x) :: m) (w.setCell ⟨b1, i, none⟩ (.int .u64 (x : Int))) := by
  have h1 := h.set i (.int .u64 (x : Int))
  rw [wRow_set] at h1
  exact h1
theorem box_u {x : Int} (h : Own W (uB b x :: m) w) : w.cell? ⟨b, 0, none⟩ = some (.int .u64 x) ∧ w.frozen? ⟨b, 0, none⟩ = false := ⟨h.cell List.mem_cons_self 0, h.frozen List.mem_cons_self 0⟩
theorem set_u {x : Int} (h : Own W (uB b x :: m) w) (y : Int) : Own W (uB b y :: m) (w.setCell ⟨b, 0, none⟩ (.int .u64 y)) := h.set 0 (.int .u64 y)
theorem sw {α : Type} (x y : α) (l : List α) : (x :: y :: l).Perm (y :: x :: l) := List.Perm.swap _ _ _
theorem len_spec (h : Own W (mB b0 b1 N k :: m) w) : Calls Try.prog 76 #[.pointer (some ⟨b0, 0, none⟩)] w fun e w' => e = .returned (.int .i64 (N : Int)) ∧ Own W (mB b0 b1 N k :: m) w' := by
  obtain ⟨y0, y1, f1⟩ := box_m h
  go_enter Try.func76, Try.ntmps76
  go_wp2_with fail
  go_ret
  exact ⟨rfl, h⟩
set_option maxRecDepth 100000 in
theorem access_bad (fv : Value) (q : Nat) (hq : q = 1 ∨ q = 2) (h : Own W (mB b0 b1 N k :: m) w) (i : Int) (hi : i < 0 ∨ (N : Int) - q < i) (hN2 : N ≤ 4096) (hk : k ≤ 1000000000) : Calls Try.prog 78 #[.pointer (some ⟨b0, 0, none⟩), .int .i64 i, .int .i64 q, fv] w fun e w' => e = .returned (.int .i64 9) ∧ Own W (mB b0 b1 N k :: m) w' := by
  obtain ⟨y0, y1, f1⟩ := box_m h
  have he := fun w => Lib.run_eql_slice_nil (P := Try.prog) w 35 22 (some ⟨b1, 0, none⟩) N N 0 0 Try.underlying35
  have hi' : i < 0 ∨ (¬ i < 0 ∧ (N : Int) - q < i) := by omega
  clear hi
  rcases hi' with hi | ⟨h0, hi⟩
  · have hd : decide (i < 0) = true := decide_eq_true hi
    rcases hq with rfl | rfl
    all_goals
      go_enter Try.func78, Try.ntmps78
      go_wp2_with fail
      go_ret
      exact ⟨rfl, h⟩
  · have hd : decide (i < 0) = false := decide_eq_false h0
    rcases hq with rfl | rfl
    · have h2 : (N : Int) - 1 < i := hi
      go_enter Try.func78, Try.ntmps78
      go_wp2_with fail
      go_ret
      exact ⟨rfl, h⟩
    · have h2 : (N : Int) - 2 < i := hi
      go_enter Try.func78, Try.ntmps78
      go_wp2_with fail
      go_ret
      exact ⟨rfl, h⟩
theorem up1 {α : Type} (x y : α) (l : List α) : (x :: y :: l).Perm (y :: x :: l) := List.Perm.swap _ _ _
theorem up2 {α : Type} (x1 x2 y : α) (l : List α) : (x1 :: x2 :: y :: l).Perm (y :: x1 :: x2 :: l) := ((up1 x2 y l).cons x1).trans (up1 _ _ _)
theorem up3 {α : Type} (x1 x2 x3 y : α) (l : List α) : (x1 :: x2 :: x3 :: y :: l).Perm (y :: x1 :: x2 :: x3 :: l) := ((up2 x2 x3 y l).cons x1).trans (up1 _ _ _)
theorem up4 {α : Type} (x1 x2 x3 x4 y : α) (l : List α) : (x1 :: x2 :: x3 :: x4 :: y :: l).Perm (y :: x1 :: x2 :: x3 :: x4 :: l) := ((up3 x2 x3 x4 y l).cons x1).trans (up1 _ _ _)
theorem up5 {α : Type} (x1 x2 x3 x4 x5 y : α) (l : List α) : (x1 :: x2 :: x3 :: x4 :: x5 :: y :: l).Perm (y :: x1 :: x2 :: x3 :: x4 :: x5 :: l) := ((up4 x2 x3 x4 x5 y l).cons x1).trans (up1 _ _ _)
theorem up6 {α : Type} (x1 x2 x3 x4 x5 x6 y : α) (l : List α) : (x1 :: x2 :: x3 :: x4 :: x5 :: x6 :: y :: l).Perm (y :: x1 :: x2 :: x3 :: x4 :: x5 :: x6 :: l) := ((up5 x2 x3 x4 x5 x6 y l).cons x1).trans (up1 _ _ _)
theorem eql_pair (w : World) (x y a b : Int) : (binOp .eql 149 (.agg #[.int .u64 x, .int .u64 y]) (.agg #[.int .u64 a, .int .u64 b])).run Try.prog w = .ok (.bool (decide (x = a ∧ y = b))) w := by
  have e1 : (Try.prog.fieldsOf 149).toList.map (fun f => (f.name == "_", f.type, f.offset)) = [(false, 22, 0), (false, 22, 1)] := by kernel_rfl
  rw [run_eql_struct, run_equalIn_struct w 9999 149 _ _ (by kernel_rfl) (by kernel_rfl)]
  obtain ⟨f1, f2, hf, e1, e2⟩ : ∃ f1 f2, (Try.prog.fieldsOf 149).toList = [f1, f2] ∧ (f1.name == "_", f1.type, f1.offset) = (false, 22, 0) ∧ (f2.name == "_", f2.type, f2.offset) = (false, 22, 1) := by
    match hl : (Try.prog.fieldsOf 149).toList, e1 with
    | [f1, f2], e1 => simp only [List.map_cons, List.map_nil, List.cons.injEq, and_true] at e1; exact ⟨f1, f2, rfl, e1.1, e1.2⟩
    | [], e1 => simp at e1
    | [_], e1 => simp at e1
    | _ :: _ :: _ :: _, e1 => simp at e1
  simp only [Prod.mk.injEq] at e1 e2
  obtain ⟨n1, t1, o1⟩ := e1
  obtain ⟨n2, t2, o2⟩ := e2
  have n1 : f1.name ≠ "_" := by simpa using n1
  have n2 : f2.name ≠ "_" := by simpa using n2
  rw [hf]
  have ha : Try.prog.underlying 22 = some (.int .u64) := Try.underlying22
  simp [Op.eqFields, n1, n2, t1, t2, o1, o2, part, run_equalIn_int, ha, isAgg]
  by_cases h1 : x = a <;> by_cases h2 : y = b <;> simp [h1, h2]
/-- a bool in a box -/
def bB (b : Nat) (x : Bool) : Nat × Obj := (b, .cells #[.bool x] 4)
theorem box_b {x : Bool} (h : Own W (bB b x :: m) w) : w.cell? ⟨b, 0, none⟩ = some (.bool x) ∧ w.frozen? ⟨b, 0, none⟩ = false := ⟨h.cell List.mem_cons_self 0, h.frozen List.mem_cons_self 0⟩
theorem set_b {x : Bool} (h : Own W (bB b x :: m) w) (y : Bool) : Own W (bB b y :: m) (w.setCell ⟨b, 0, none⟩ (.bool y)) := h.set 0 (.bool y)
/-! Load -/
set_option maxRecDepth 100000 in
theorem load1_spec (v : Int) (h : Own W (uB b v :: mB b0 b1 N k :: wB b1 g :: m) w) {i x : Nat} (hx : g[i]? = some x) (q : Nat) : Calls Try.prog 128 #[.slice (some ⟨b1, i, none⟩) 1 q, .pointer (some ⟨b, 0, none⟩)] w fun e w' => e = .returned (.tuple #[]) ∧ Own W (uB b x :: mB b0 b1 N k :: wB b1 g :: m) w' := by
  obtain ⟨y0, f0⟩ := box_u h
  obtain ⟨z0, -⟩ := cell_w h.skip.skip hx
  have h2 := set_u h (x : Int)
  clear hx
  go_enter Try.func128, Try.ntmps128
  go_wp2_with fail
  go_end0
  exact ⟨rfl, h2⟩
set_option maxRecDepth 100000 in
theorem access_load (v : Int) (h : Own W (uB b v :: mB b0 b1 N k :: wB b1 g :: m) w) {i x : Nat} (hx : g[i]? = some x) (hN : g.length = N) (hN2 : N ≤ 4096) (hk : k ≤ 1000000000) : Calls Try.prog 78 #[.pointer (some ⟨b0, 0, none⟩), .int .i64 i, .int .i64 1, .func (.func 128) #[] #[.pointer (some ⟨b, 0, none⟩)]] w fun e w' => e = .returned (.int .i64 0) ∧ Own W (uB b x :: mB b0 b1 N (k + 1) :: wB b1 g :: m) w' := by
  obtain ⟨y0, y1, f1⟩ := box_m h.skip
  have hlt : i + (1 - 1) < N := by rw [← hN]; exact (List.getElem?_eq_some_iff.1 hx).1
  have h2 := (set_m (h.perm (up1 _ _ _)) (k + 1)).perm (up1 _ _ _).symm
  have hi1 : (i : Int) ≤ (N : Int) - 1 := by omega
  have he := fun w => Lib.run_eql_slice_nil (P := Try.prog) w 35 22 (some ⟨b1, 0, none⟩) N N 0 0 Try.underlying35
  have HX := Lib.hid hx
  have H2 := Lib.hid h2
  clear hx h2 h hN
  go_enter Try.func78, Try.ntmps78
  go_wp2_with fail
  refine (load1_spec _ H2.out HX.out _).mono ?_
  rintro e w3 ⟨rfl, h3⟩
  go_wp2_with fail
  go_ret
  exact ⟨rfl, h3⟩
/-! Store -/
set_option maxRecDepth 100000 in
theorem store1_spec (v : Nat) (h : Own W (uB b (v : Int) :: mB b0 b1 N k :: wB b1 g :: m) w) {i x : Nat} (hx : g[i]? = some x) (q : Nat) : Calls Try.prog 79 #[.slice (some ⟨b1, i, none⟩) 1 q, .pointer (some ⟨b, 0, none⟩)] w fun e w' => e = .returned (.tuple #[]) ∧ Own W (uB b (v : Int) :: mB b0 b1 N k :: wB b1 (g.set i v) :: m) w' := by
  obtain ⟨y0, f0⟩ := box_u h
  obtain ⟨z0, z1⟩ := cell_w h.skip.skip hx
  have h2 := (set_w (h.perm (up2 _ _ _ _)) i v).perm (up2 _ _ _ _).symm
  clear hx
  go_enter Try.func79, Try.ntmps79
  go_wp2_with fail
  go_end0
  exact ⟨rfl, h2⟩
set_option maxRecDepth 100000 in
theorem access_store (v : Nat) (h : Own W (uB b (v : Int) :: mB b0 b1 N k :: wB b1 g :: m) w) {i x : Nat} (hx : g[i]? = some x) (hN : g.length = N) (hN2 : N ≤ 4096) (hk : k ≤ 1000000000) : Calls Try.prog 78 #[.pointer (some ⟨b0, 0, none⟩), .int .i64 i, .int .i64 1, .func (.func 79) #[] #[.pointer (some ⟨b, 0, none⟩)]] w fun e w' => e = .returned (.int .i64 0) ∧ Own W (uB b (v : Int) :: mB b0 b1 N (k + 1) :: wB b1 (g.set i v) :: m) w' := by
  obtain ⟨y0, y1, f1⟩ := box_m h.skip
  have hlt : i + (1 - 1) < N := by rw [← hN]; exact (List.getElem?_eq_some_iff.1 hx).1
  have h2 := (set_m (h.perm (up1 _ _ _)) (k + 1)).perm (up1 _ _ _).symm
  have hi1 : (i : Int) ≤ (N : Int) - 1 := by omega
  have he := fun w => Lib.run_eql_slice_nil (P := Try.prog) w 35 22 (some ⟨b1, 0, none⟩) N N 0 0 Try.underlying35
  have HX := Lib.hid hx
  have H2 := Lib.hid h2
  clear hx h2 h hN
  go_enter Try.func78, Try.ntmps78
  go_wp2_with fail
  refine (store1_spec _ H2.out HX.out _).mono ?_
  rintro e w3 ⟨rfl, h3⟩
  go_wp2_with fail
  go_ret
  exact ⟨rfl, h3⟩
/-! Cas2 -/
set_option maxRecDepth 100000 in
theorem cas21_spec (z : Bool) (ol se tw ot c0 c1 c2 c3 c4 : Nat) (h : Own W (bB c4 z :: uB c3 (ot : Int) :: uB c2 (tw : Int) :: uB c1 (se : Int) :: uB c0 (ol : Int) :: mB b0 b1 N k :: wB b1 g :: m) w) {i x y : Nat} (hx : g[i]? = some x) (hy : g[i + 1]? = some y) {t : Bool} {g' : List Nat} (ht : Hid (t = decide (x = ol ∧ y = se) ∧ g' = if x = ol ∧ y = se then (g.set i tw).set (i + 1) ot else g)) (q : Nat) : Calls Try.prog 130 #[.slice (some ⟨b1, i, none⟩) 2 q, .pointer (some ⟨c0, 0, none⟩), .pointer (some ⟨c1, 0, none⟩), .pointer (some ⟨c4, 0, none⟩), .pointer (some ⟨c2, 0, none⟩), .pointer (some ⟨c3, 0, none⟩)] w fun e w' => e = .returned (.tuple #[]) ∧ Own W (bB c4 t :: uB c3 (ot : Int) :: uB c2 (tw : Int) :: uB c1 (se : Int) :: uB c0 (ol : Int) :: mB b0 b1 N k :: wB b1 g' :: m) w' := by
  obtain ⟨y4, f4⟩ := box_b h
  obtain ⟨y3, f3⟩ := box_u h.skip
  obtain ⟨y2, f2⟩ := box_u h.skip.skip
  obtain ⟨y1, f1⟩ := box_u h.skip.skip.skip
  obtain ⟨y0, f0⟩ := box_u h.skip.skip.skip.skip
  obtain ⟨z0, z1⟩ := cell_w h.skip.skip.skip.skip.skip.skip hx
  obtain ⟨z2, z3⟩ := cell_w h.skip.skip.skip.skip.skip.skip hy
  have hg : (Try.prog.eqGuardType Try.prog.depth 149) = false := by kernel_rfl
  have hnd := h.nd
  simp only [bB, uB, mB, wB, List.map_cons, List.nodup_cons, List.mem_cons, not_or] at hnd
  obtain ⟨⟨-, -, p1, p0, -, pb, -⟩, ⟨-, -, -, -, r1, -⟩, ⟨-, -, -, r2, -⟩, -⟩ := hnd
  have n1 : b1 ≠ c4 := fun e => pb e.symm
  have n2 : c0 ≠ c4 := fun e => p0 e.symm
  have n3 : c1 ≠ c4 := fun e => p1 e.symm
  have n4 : c3 ≠ b1 := r1
  have n5 : c2 ≠ b1 := r2
  have n6 : b1 ≠ c3 := fun e => r1 e.symm
  have n7 : b1 ≠ c2 := fun e => r2 e.symm
  have HX := Lib.hid hx
  have HY := Lib.hid hy
  clear hx hy
  obtain ⟨ht, hgg⟩ := ht
  by_cases hc : x = ol ∧ y = se
  · rw [if_pos hc] at hgg
    rw [decide_eq_true hc] at ht
    subst ht hgg
    have heq : ∀ w, (binOp .eql 149 (.agg #[.int .u64 (x : Int), .int .u64 (y : Int)]) (.agg #[.int .u64 (ol : Int), .int .u64 (se : Int)])).run Try.prog w = .ok (.bool true) w := fun w => by rw [eql_pair, decide_eq_true ⟨by omega, by omega⟩]
    have h1 := (set_b h true).drew
    have H := Lib.hid h1
    clear hc h h1
    go_enter Try.func130, Try.ntmps130
    go_wp2_with fail
    go_region_held3 (fun w' => w'.cell? ⟨b1, i, none⟩ = some (.int .u64 (x : Int)) ∧ w'.cell? ⟨b1, i + 1, none⟩ = some (.int .u64 (y : Int)) ∧ w'.cell? ⟨c0, 0, none⟩ = some (.int .u64 (ol : Int)) ∧ w'.cell? ⟨c1, 0, none⟩ = some (.int .u64 (se : Int))) (first | (refine ⟨?_, ?_, ?_, ?_⟩ <;> assumption) | go_keep) (fail)
    have H1 := H.out
    obtain ⟨w1, hw1⟩ : ∃ w1, (w.setCell ⟨c4, 0, none⟩ (.bool true)).drew = w1 := ⟨_, rfl⟩
    rw [hw1] at H1 ⊢
    clear y0 y1 y2 y3 y4 f0 f1 f2 f3 f4 z0 z1 z2 z3 heq hw1 H
    obtain ⟨y4, f4⟩ := box_b H1
    go_wp2_with fail
    obtain ⟨y3, f3⟩ := box_u H1.skip
    obtain ⟨y2, f2⟩ := box_u H1.skip.skip
    obtain ⟨z0, z1⟩ := cell_w H1.skip.skip.skip.skip.skip.skip HX.out
    obtain ⟨z2, z3⟩ := cell_w H1.skip.skip.skip.skip.skip.skip HY.out
    have h5 := ((set_w (set_w (H1.perm (up6 _ _ _ _ _ _ _ _)) i tw) (i + 1) ot).perm (up6 _ _ _ _ _ _ _ _).symm).drew
    have H5 := Lib.hid h5
    clear h5 y4 f4 H1
    go_region_held3 (fun w' => w'.cell? ⟨c2, 0, none⟩ = some (.int .u64 (tw : Int)) ∧ w'.cell? ⟨c3, 0, none⟩ = some (.int .u64 (ot : Int))) (first | (refine ⟨?_, ?_⟩ <;> assumption) | go_keep) (fail)
    go_wp2_with fail
    go_end0
    exact ⟨rfl, H5.out⟩
  · rw [if_neg hc] at hgg
    rw [decide_eq_false hc] at ht
    subst ht hgg
    have heq : ∀ w, (binOp .eql 149 (.agg #[.int .u64 (x : Int), .int .u64 (y : Int)]) (.agg #[.int .u64 (ol : Int), .int .u64 (se : Int)])).run Try.prog w = .ok (.bool false) w := fun w => by rw [eql_pair, decide_eq_false (by omega)]
    have h1 := (set_b h false).drew
    have H := Lib.hid h1
    clear hc h h1
    go_enter Try.func130, Try.ntmps130
    go_wp2_with fail
    go_region_held3 (fun w' => w'.cell? ⟨b1, i, none⟩ = some (.int .u64 (x : Int)) ∧ w'.cell? ⟨b1, i + 1, none⟩ = some (.int .u64 (y : Int)) ∧ w'.cell? ⟨c0, 0, none⟩ = some (.int .u64 (ol : Int)) ∧ w'.cell? ⟨c1, 0, none⟩ = some (.int .u64 (se : Int))) (first | (refine ⟨?_, ?_, ?_, ?_⟩ <;> assumption) | go_keep) (fail)
    have H1 := H.out
    obtain ⟨w1, hw1⟩ : ∃ w1, (w.setCell ⟨c4, 0, none⟩ (.bool false)).drew = w1 := ⟨_, rfl⟩
    rw [hw1] at H1 ⊢
    clear y0 y1 y2 y3 y4 f0 f1 f2 f3 f4 z0 z1 z2 z3 heq hw1 H
    obtain ⟨y4, f4⟩ := box_b H1
    go_wp2_with fail
    go_end0
    exact ⟨rfl, H1⟩
set_option maxRecDepth 100000 in
theorem access_cas2 (z : Bool) (ol se tw ot c0 c1 c2 c3 c4 : Nat) (h : Own W (bB c4 z :: uB c3 (ot : Int) :: uB c2 (tw : Int) :: uB c1 (se : Int) :: uB c0 (ol : Int) :: mB b0 b1 N k :: wB b1 g :: m) w) {i x y : Nat} (hx : g[i]? = some x) (hy : g[i + 1]? = some y) {t : Bool} {g' : List Nat} (ht : Hid (t = decide (x = ol ∧ y = se) ∧ g' = if x = ol ∧ y = se then (g.set i tw).set (i + 1) ot else g)) (hN : g.length = N) (hN2 : N ≤ 4096) (hk : k ≤ 1000000000) : Calls Try.prog 78 #[.pointer (some ⟨b0, 0, none⟩), .int .i64 i, .int .i64 2, .func (.func 130) #[] #[.pointer (some ⟨c0, 0, none⟩), .pointer (some ⟨c1, 0, none⟩), .pointer (some ⟨c4, 0, none⟩), .pointer (some ⟨c2, 0, none⟩), .pointer (some ⟨c3, 0, none⟩)]] w fun e w' => e = .returned (.int .i64 0) ∧ Own W (bB c4 t :: uB c3 (ot : Int) :: uB c2 (tw : Int) :: uB c1 (se : Int) :: uB c0 (ol : Int) :: mB b0 b1 N (k + 1) :: wB b1 g' :: m) w' := by
  obtain ⟨y0, y1, f1⟩ := box_m h.skip.skip.skip.skip.skip
  have hlt : i + (2 - 1) < N := by rw [← hN]; exact (List.getElem?_eq_some_iff.1 hy).1
  have h2 := (set_m (h.perm (up5 _ _ _ _ _ _ _)) (k + 1)).perm (up5 _ _ _ _ _ _ _).symm
  have hi1 : (i : Int) ≤ (N : Int) - 2 := by omega
  have he := fun w => Lib.run_eql_slice_nil (P := Try.prog) w 35 22 (some ⟨b1, 0, none⟩) N N 0 0 Try.underlying35
  have HX := Lib.hid hx
  have HY := Lib.hid hy
  have H2 := Lib.hid h2
  clear hx h2 h hN hy
  go_enter Try.func78, Try.ntmps78
  go_wp2_with fail
  refine (cas21_spec _ _ _ _ _ _ _ _ _ _ H2.out HX.out HY.out ht _).mono ?_
  rintro e w3 ⟨rfl, h3⟩
  go_wp2_with fail
  go_ret
  exact ⟨rfl, h3⟩
set_option maxRecDepth 100000 in
theorem load_in  (h : Own W (mB b0 b1 N k :: wB b1 g :: m) w) {i x : Nat} (hx : g[i]? = some x) (hN : g.length = N) (hN2 : N ≤ 4096) (hk : k ≤ 1000000000) : Calls Try.prog 124 #[.pointer (some ⟨b0, 0, none⟩), .int .i64 (i : Int)] w fun e w' => e = .returned (.tuple #[.int .u64 (x : Int), .int .i64 0]) ∧ Own W (mB b0 b1 N (k + 1) :: wB b1 g :: m) w' := by
  have h1 := (h.new (.cells #[.int .u64 0] 22))
  obtain ⟨b, hb⟩ : ∃ b, w.heap.size = b := ⟨_, rfl⟩
  try simp only [World.size_alloc] at h1
  rw [hb] at h1
  have h1 : Own W (uB b 0 :: mB b0 b1 N k :: wB b1 g :: m) _ := h1
  have hac := access_load 0 h1 hx hN hN2 hk
  have HAC := Lib.hid hac
  clear hac h h1 hx hN
  go_enter Try.func124, Try.ntmps124
  go_wp2_with fail
  refine (HAC.out).mono ?_
  rintro e w3 ⟨rfl, h3⟩
  obtain ⟨y0, f0⟩ := box_u h3
  have h4 := set_u h3 (x : Int)
  obtain ⟨z0, -⟩ := box_u h4
  go_wp2_with fail
  exact bodyPost_ret (v := (.tuple #[.int .u64 (x : Int), .int .i64 0])) (by simp [results, Try.f124, go_sem, z0]) rfl ⟨rfl, h4.skip⟩
set_option maxRecDepth 100000 in
theorem load_bad  (h : Own W (mB b0 b1 N k :: wB b1 g :: m) w)  (i : Int) (hi : i < 0 ∨ (N : Int) - 1 < i) (hN2 : N ≤ 4096) (hk : k ≤ 1000000000) : Calls Try.prog 124 #[.pointer (some ⟨b0, 0, none⟩), .int .i64 i] w fun e w' => e = .returned (.tuple #[.int .u64 0, .int .i64 9]) ∧ Own W (mB b0 b1 N k :: wB b1 g :: m) w' := by
  have h1 := (h.new (.cells #[.int .u64 0] 22))
  obtain ⟨b, hb⟩ : ∃ b, w.heap.size = b := ⟨_, rfl⟩
  try simp only [World.size_alloc] at h1
  rw [hb] at h1
  have h1 : Own W (uB b 0 :: mB b0 b1 N k :: wB b1 g :: m) _ := h1
  have hac := fun fv => access_bad fv 1 (by omega) (h1.perm (up1 _ _ _)) i hi hN2 hk
  have HAC := Lib.hid hac
  clear hac h h1 hi
  go_enter Try.func124, Try.ntmps124
  go_wp2_with fail
  refine (HAC.out _).mono ?_
  rintro e w3 ⟨rfl, h3⟩
  have h3 := h3.perm (up1 _ _ _).symm
  obtain ⟨y0, f0⟩ := box_u h3
  have h4 := set_u h3 0
  obtain ⟨z0, -⟩ := box_u h4
  go_wp2_with fail
  exact bodyPost_ret (v := (.tuple #[.int .u64 0, .int .i64 9])) (by simp [results, Try.f124, go_sem, z0]) rfl ⟨rfl, h4.skip⟩
set_option maxRecDepth 100000 in
theorem store_in (v : Nat) (h : Own W (mB b0 b1 N k :: wB b1 g :: m) w) {i x : Nat} (hx : g[i]? = some x) (hN : g.length = N) (hN2 : N ≤ 4096) (hk : k ≤ 1000000000) : Calls Try.prog 49 #[.pointer (some ⟨b0, 0, none⟩), .int .i64 (i : Int), .int .u64 (v : Int)] w fun e w' => e = .returned (.int .i64 0) ∧ Own W (mB b0 b1 N (k + 1) :: wB b1 (g.set i v) :: m) w' := by
  have h1 := (h.new (.cells #[.int .u64 (v : Int)] 22))
  obtain ⟨b, hb⟩ : ∃ b, w.heap.size = b := ⟨_, rfl⟩
  try simp only [World.size_alloc] at h1
  rw [hb] at h1
  have h1 : Own W (uB b (v : Int) :: mB b0 b1 N k :: wB b1 g :: m) _ := h1
  have hac := access_store v h1 hx hN hN2 hk
  have HAC := Lib.hid hac
  clear hac h h1 hx hN
  go_enter Try.func49, Try.ntmps49
  go_wp2_with fail
  refine (HAC.out).mono ?_
  rintro e w3 ⟨rfl, h3⟩
  go_wp2_with fail
  go_ret
  exact ⟨rfl, h3.skip⟩
set_option maxRecDepth 100000 in
theorem store_bad (v : Nat) (h : Own W (mB b0 b1 N k :: wB b1 g :: m) w)  (i : Int) (hi : i < 0 ∨ (N : Int) - 1 < i) (hN2 : N ≤ 4096) (hk : k ≤ 1000000000) : Calls Try.prog 49 #[.pointer (some ⟨b0, 0, none⟩), .int .i64 i, .int .u64 (v : Int)] w fun e w' => e = .returned (.int .i64 9) ∧ Own W (mB b0 b1 N k :: wB b1 g :: m) w' := by
  have h1 := (h.new (.cells #[.int .u64 (v : Int)] 22))
  obtain ⟨b, hb⟩ : ∃ b, w.heap.size = b := ⟨_, rfl⟩
  try simp only [World.size_alloc] at h1
  rw [hb] at h1
  have h1 : Own W (uB b (v : Int) :: mB b0 b1 N k :: wB b1 g :: m) _ := h1
  have hac := fun fv => access_bad fv 1 (by omega) (h1.perm (up1 _ _ _)) i hi hN2 hk
  have HAC := Lib.hid hac
  clear hac h h1 hi
  go_enter Try.func49, Try.ntmps49
  go_wp2_with fail
  refine (HAC.out _).mono ?_
  rintro e w3 ⟨rfl, h3⟩
  have h3 := h3.perm (up1 _ _ _).symm
  go_wp2_with fail
  go_ret
  exact ⟨rfl, h3.skip⟩
set_option maxRecDepth 100000 in
theorem cas2_in (ol se tw ot : Nat) (h : Own W (mB b0 b1 N k :: wB b1 g :: m) w) {i x y : Nat} (hx : g[i]? = some x) (hy : g[i + 1]? = some y) {t : Bool} {g' : List Nat} (ht : Hid (t = decide (x = ol ∧ y = se) ∧ g' = if x = ol ∧ y = se then (g.set i tw).set (i + 1) ot else g)) (hN : g.length = N) (hN2 : N ≤ 4096) (hk : k ≤ 1000000000) : Calls Try.prog 129 #[.pointer (some ⟨b0, 0, none⟩), .int .i64 (i : Int), .int .u64 (ol : Int), .int .u64 (se : Int), .int .u64 (tw : Int), .int .u64 (ot : Int)] w fun e w' => e = .returned (.tuple #[.bool t, .int .i64 0]) ∧ Own W (mB b0 b1 N (k + 1) :: wB b1 g' :: m) w' := by
  have h1 := (((((h.new (.cells #[.int .u64 (ol : Int)] 22)).new (.cells #[.int .u64 (se : Int)] 22)).new (.cells #[.int .u64 (tw : Int)] 22)).new (.cells #[.int .u64 (ot : Int)] 22)).new (.cells #[.bool false] 4))
  obtain ⟨b, hb⟩ : ∃ b, w.heap.size = b := ⟨_, rfl⟩
  try simp only [World.size_alloc] at h1
  rw [hb] at h1
  have h1 : Own W (bB (b + 4) false :: uB (b + 3) (ot : Int) :: uB (b + 2) (tw : Int) :: uB (b + 1) (se : Int) :: uB b (ol : Int) :: mB b0 b1 N k :: wB b1 g :: m) _ := h1
  have hac := access_cas2 false ol se tw ot _ _ _ _ _ h1 hx hy ht hN hN2 hk
  have HAC := Lib.hid hac
  clear hac h h1 hx hy hN
  go_enter Try.func129, Try.ntmps129
  go_wp2_with fail
  refine (HAC.out).mono ?_
  rintro e w3 ⟨rfl, h3⟩
  obtain ⟨y0, f0⟩ := box_b h3
  have h4 := set_b h3 t
  obtain ⟨z0, -⟩ := box_b h4
  go_wp2_with fail
  exact bodyPost_ret (v := (.tuple #[.bool t, .int .i64 0])) (by simp [results, Try.f129, go_sem, z0]) rfl ⟨rfl, h4.skip.skip.skip.skip.skip⟩
set_option maxRecDepth 100000 in
theorem cas2_bad (ol se tw ot : Nat) (h : Own W (mB b0 b1 N k :: wB b1 g :: m) w)  (i : Int) (hi : i < 0 ∨ (N : Int) - 2 < i) (hN2 : N ≤ 4096) (hk : k ≤ 1000000000) : Calls Try.prog 129 #[.pointer (some ⟨b0, 0, none⟩), .int .i64 i, .int .u64 (ol : Int), .int .u64 (se : Int), .int .u64 (tw : Int), .int .u64 (ot : Int)] w fun e w' => e = .returned (.tuple #[.bool false, .int .i64 9]) ∧ Own W (mB b0 b1 N k :: wB b1 g :: m) w' := by
  have h1 := (((((h.new (.cells #[.int .u64 (ol : Int)] 22)).new (.cells #[.int .u64 (se : Int)] 22)).new (.cells #[.int .u64 (tw : Int)] 22)).new (.cells #[.int .u64 (ot : Int)] 22)).new (.cells #[.bool false] 4))
  obtain ⟨b, hb⟩ : ∃ b, w.heap.size = b := ⟨_, rfl⟩
  try simp only [World.size_alloc] at h1
  rw [hb] at h1
  have h1 : Own W (bB (b + 4) false :: uB (b + 3) (ot : Int) :: uB (b + 2) (tw : Int) :: uB (b + 1) (se : Int) :: uB b (ol : Int) :: mB b0 b1 N k :: wB b1 g :: m) _ := h1
  have hac := fun fv => access_bad fv 2 (by omega) (h1.perm (up5 _ _ _ _ _ _ _)) i hi hN2 hk
  have HAC := Lib.hid hac
  clear hac h h1 hi
  go_enter Try.func129, Try.ntmps129
  go_wp2_with fail
  refine (HAC.out _).mono ?_
  rintro e w3 ⟨rfl, h3⟩
  have h3 := h3.perm (up5 _ _ _ _ _ _ _).symm
  obtain ⟨y0, f0⟩ := box_b h3
  have h4 := set_b h3 false
  obtain ⟨z0, -⟩ := box_b h4
  go_wp2_with fail
  exact bodyPost_ret (v := (.tuple #[.bool false, .int .i64 9])) (by simp [results, Try.f129, go_sem, z0]) rfl ⟨rfl, h4.skip.skip.skip.skip.skip⟩
end
end Go.Proofs.Ytigakendeghoaaa.Mem
