/-
  Contract: a processor's slot (reader.slot). No condition.
-/
import Derived.Test.YtigakendeghoaaaSeeF
namespace Go.Proofs.Ytigakendeghoaaa.See
open Go.RowKit
open chartPlaces (Ok)
attribute [local go_sem ↓] Go.wp_at_zero Go.wp_at_succ
section
variable {W w : World} {M m : List (Nat × Obj)} {B o N k b : Nat} {g : List Nat} {c : Ch} {d e : Int}
/-- what slot answers -/
def SlotPost (W : World) (m : List (Nat × Obj)) (r : Option SlotP) (e : Ending) (w' : World) : Prop := match r with
  | some x => ∃ lv lb pv pb, e = .returned (.tuple #[.agg #[.int .i64 x.slab, lv, .int .u64 x.turn, pv], .bool true]) ∧ Hid (IntsOwn true lv x.list lb) ∧ Hid (IntsOwn true pv x.parts pb) ∧ Own W (lb ++ (pb ++ m)) w'
  | none => e = .returned (.tuple #[.agg #[.int .i64 0, .slice none 0 0, .int .u64 0, .slice none 0 0], .bool false]) ∧ Own W m w'
/-- a slot's block -/
def sBlk (b : Nat) (s : Int) (lv : Value) (t : Int) (pv : Value) : Nat × Obj := (b, .cells #[.int .i64 s, lv, .int .u64 t, pv] 78)
theorem box4 {s t : Int} {lv pv : Value} (h : Own W (sBlk b s lv t pv :: m) w) : (w.cell? ⟨b, 0, none⟩ = some (.int .i64 s) ∧ w.cell? ⟨b, 1, none⟩ = some lv ∧ w.cell? ⟨b, 2, none⟩ = some (.int .u64 t) ∧ w.cell? ⟨b, 3, none⟩ = some pv) ∧ (w.frozen? ⟨b, 0, none⟩ = false ∧ w.frozen? ⟨b, 1, none⟩ = false ∧ w.frozen? ⟨b, 2, none⟩ = false ∧ w.frozen? ⟨b, 3, none⟩ = false) :=
  ⟨⟨h.cell List.mem_cons_self 0, h.cell List.mem_cons_self 1, h.cell List.mem_cons_self 2, h.cell List.mem_cons_self 3⟩, ⟨h.frozen List.mem_cons_self 0, h.frozen List.mem_cons_self 1, h.frozen List.mem_cons_self 2, h.frozen List.mem_cons_self 3⟩⟩
theorem slot_perm {α : Type} (b6 lb : List α) (x y : α) (m : List α) : (b6 ++ (lb ++ (x :: y :: m))).Perm (x :: (y :: (b6 ++ (lb ++ m)))) := by
  have h1 : (b6 ++ (lb ++ (x :: y :: m))).Perm (x :: (b6 ++ (lb ++ (y :: m)))) := by
    rw [← List.append_assoc, ← List.append_assoc]
    exact List.perm_middle
  refine h1.trans (List.Perm.cons x ?_)
  rw [← List.append_assoc, ← List.append_assoc]
  exact List.perm_middle
theorem sset {b : Nat} {s t s' t' : Int} {lv pv lv' pv' : Value} (h : Own W (sBlk b s lv t pv :: m) w) : Own W (sBlk b s' lv' t' pv' :: m) ((((w.setCell ⟨b, 0, none⟩ (.int .i64 s')).setCell ⟨b, 1, none⟩ lv').setCell ⟨b, 2, none⟩ (.int .u64 t')).setCell ⟨b, 3, none⟩ pv') := by
  have h1 := (((h.set 0 (.int .i64 s')).set 1 lv').set 2 (.int .u64 t')).set 3 pv'
  exact h1
theorem sset1 {b : Nat} {s t : Int} {lv pv lv' : Value} (h : Own W (sBlk b s lv t pv :: m) w) : Own W (sBlk b s lv' t pv :: m) (w.setCell ⟨b, 1, none⟩ lv') := h.set 1 lv'
theorem sset3 {b : Nat} {s t : Int} {lv pv pv' : Value} (h : Own W (sBlk b s lv t pv :: m) w) : Own W (sBlk b s lv t pv' :: m) (w.setCell ⟨b, 3, none⟩ pv') := h.set 3 pv'
set_option maxRecDepth 100000 in
set_option maxHeartbeats 4000000 in
theorem rslot_spec (h : Own W m w) (hc : COk c d e) (hw : WOk W m B o N k g c) (i : Nat) (hi : i < c.C) :
    Calls Try.prog 64 #[rV B o N k c d e, .int .i64 i] w (SlotPost W m (slotP c g i)) := by
  obtain ⟨n1, n2, n3, n4, n5, n6⟩ := hc.nums
  have h1 := (h.new (.cells #[.slice (some ⟨B, o, none⟩) N k, .int .i64 c.C, .int .i64 c.S, .int .i64 c.O, .int .i64 d, .int .i64 e, .int .u64 c.key] 84)).new (.cells #[.int .i64 0, .slice none 0 0, .int .u64 0, .slice none 0 0] 78)
  obtain ⟨b, hb⟩ : ∃ b, w.heap.size = b := ⟨_, rfl⟩
  simp only [World.size_alloc] at h1
  rw [hb] at h1
  have h1 : Own W (sBlk (b + 1) 0 (.slice none 0 0) 0 (.slice none 0 0) :: (rBlk b B o N k c d e :: m)) _ := h1
  obtain ⟨y0, y1, y2, y3, y4, y5, y6⟩ := box7 h1.skip
  have hN := hw.n
  unfold Ch.words at hN
  have hii : 0 ≤ (i : Int) ∧ (i : Int) < (c.C : Int) := by omega
  obtain ⟨p, hp⟩ : ∃ p : Nat, 4 * i = p := ⟨_, rfl⟩
  have hpi : 4 * (i : Int) = (p : Int) := by omega
  have HPI := Lib.hid hpi
  have hpN : p + 2 < N := by omega
  have hpb : p ≤ 32 := by omega
  have hp0 : (0 : Int) ≤ (p : Int) := by omega
  have hp1 : (p : Int) < (N : Int) := by omega
  have hp2 : (p : Int) + 1 < (N : Int) := by omega
  have hp3 : (p : Int) + 2 < (N : Int) := by omega
  obtain ⟨x0, hx0⟩ : ∃ x, g[p]? = some x := ⟨_, List.getElem?_eq_getElem (by rw [hw.len]; omega)⟩
  obtain ⟨x1, hx1⟩ : ∃ x, g[p + 1]? = some x := ⟨_, List.getElem?_eq_getElem (by rw [hw.len]; omega)⟩
  obtain ⟨p2, hpp2⟩ : ∃ p2 : Nat, p + 2 = p2 := ⟨_, rfl⟩
  have hp6 : (0 : Int) ≤ (p2 : Int) := by omega
  have hp7 : (p2 : Int) < (N : Int) := by omega
  have hw2 : IntKind.i64.wrap ((p : Int) + 2) = (p2 : Int) := by rw [IntWalk.i64_in] <;> omega
  obtain ⟨x2, hx2⟩ : ∃ x, g[p2]? = some x := ⟨_, List.getElem?_eq_getElem (by rw [hw.len]; omega)⟩
  have a0 : at_ g (4 * i) = x0 := by unfold at_; rw [hp, List.getD_eq_getElem?_getD, hx0]; rfl
  have a1 : at_ g (4 * i + 1) = x1 := by unfold at_; rw [hp, List.getD_eq_getElem?_getD, hx1]; rfl
  have a2 : at_ g (4 * i + 2) = x2 := by unfold at_; rw [hp, hpp2, List.getD_eq_getElem?_getD, hx2]; rfl
  have hBlt : B < w.heap.size := World.block_lt_of_cell? w _ (hw.rd w h p x0 hx0)
  rw [hb] at hBlt
  have hBn1 : B ≠ b + 1 := by omega
  have hBn2 : b + 1 ≠ B := by omega
  have hbn1 : b ≠ b + 1 := by omega
  have hbn2 : b + 1 ≠ b := by omega
  have hp4 : (0 : Int) ≤ (p : Int) + 2 := by omega
  have hp5 : (0 : Int) ≤ (p : Int) + 1 := by omega
  have hho := fun w => headOf_spec x0 (hw.w64 x0 (List.mem_of_getElem? hx0)) w
  have HX2 : Hid (x2 < 18446744073709551616) := hw.w64 x2 (List.mem_of_getElem? hx2)
  have HG : Hid (∀ ws, Own W m ws → ws.cell? ⟨B, o + p, none⟩ = some (.int .u64 (x0 : Int)) ∧ ws.cell? ⟨B, o + (p + 1), none⟩ = some (.int .u64 (x1 : Int)) ∧ ws.cell? ⟨B, o + p2, none⟩ = some (.int .u64 (x2 : Int))) := fun ws hws => ⟨hw.rd ws hws p x0 hx0, hw.rd ws hws (p + 1) x1 hx1, hw.rd ws hws p2 x2 hx2⟩
  unfold slotP
  rw [a0, a1, a2]
  unfold headV at hho
  have HC := Lib.hid hc
  have HW := Lib.hid hw
  have HI := Lib.hid hii
  have H1 := Lib.hid h1
  clear hpp2 hp3 hN hp hpi hx0 hx1 hx2 a0 a1 a2 hw hc hii h1 h
  obtain ⟨q0, q1, q2⟩ := HG.out _ H1.out.skip.skip
  cases hh : headOf x0 with
  | none =>
    rw [hh] at hho
    have HH := Lib.hid hho
    clear hh hho
    unfold rV
    go_enter Try.func64, Try.ntmps64
    go_wp2_with fail
    refine (Apart.head_ok HC.out.ok HI.out H1.out).mono ?_
    rintro r w2 ⟨rfl, h2⟩
    rw [HPI.out]
    clear y0 y1 y2 y3 y4 y5 y6 q0 q1 q2
    obtain ⟨y0, y1, y2, y3, y4, y5, y6⟩ := box7 h2.skip
    obtain ⟨q0, q1, q2⟩ := HG.out _ h2.skip.skip
    obtain ⟨⟨z0, z1, z2, z3⟩, ⟨f0, f1, f2, f3⟩⟩ := box4 h2
-- BODY
    go_wp2_with (go_at_call 80; refine (HH.out _).mono ?_; rintro r w3 ⟨rfl, rfl⟩)
    have h9 := sset (s' := 0) (lv' := .slice none 0 0) (t' := 0) (pv' := .slice none 0 0) h2
    obtain ⟨⟨e0, e1, e2, e3⟩, -⟩ := box4 h9
    exact bodyPost_ret (v := .tuple #[.agg #[.int .i64 0, .slice none 0 0, .int .u64 0, .slice none 0 0], .bool false]) (by simp [results, Try.f64, go_sem, e0, e1, e2, e3]) rfl ⟨rfl, h9.skip.skip⟩
  | some v =>
    obtain ⟨s, ob⟩ := v
    rw [hh] at hho
    have hge := headOf_ge hh
    simp only at hho ⊢
    have HH := Lib.hid hho
    clear hh hho
    by_cases hsS : (c.S : Int) ≤ s
    · have hlp : listP c g s ob = none := by
        unfold listP
        rw [if_neg (by omega)]
      rw [if_neg (by omega), hlp]
      simp only
      clear hlp hge
      unfold rV
      go_enter Try.func64, Try.ntmps64
      go_wp2_with fail
      refine (Apart.head_ok HC.out.ok HI.out H1.out).mono ?_
      rintro r w2 ⟨rfl, h2⟩
      rw [HPI.out]
      clear y0 y1 y2 y3 y4 y5 y6 q0 q1 q2
      obtain ⟨y0, y1, y2, y3, y4, y5, y6⟩ := box7 h2.skip
      obtain ⟨q0, q1, q2⟩ := HG.out _ h2.skip.skip
      obtain ⟨⟨z0, z1, z2, z3⟩, ⟨f0, f1, f2, f3⟩⟩ := box4 h2
      go_wp2_with (go_at_call 80; refine (HH.out _).mono ?_; rintro r w3 ⟨rfl, rfl⟩)
      have h9 := sset (s' := 0) (lv' := .slice none 0 0) (t' := 0) (pv' := .slice none 0 0) h2
      obtain ⟨⟨e0, e1, e2, e3⟩, -⟩ := box4 h9
      exact bodyPost_ret (v := .tuple #[.agg #[.int .i64 0, .slice none 0 0, .int .u64 0, .slice none 0 0], .bool false]) (by simp [results, Try.f64, go_sem, e0, e1, e2, e3]) rfl ⟨rfl, h9.skip.skip⟩
    · have hsn : ¬ (c.S : Int) ≤ s := hsS
      by_cases hm1 : s = -1
      · subst hm1
        rw [if_pos rfl]
        simp only
        clear hge
        cases hpp : partsP c g x2 with
        | none =>
          simp only
          have HPP := Lib.hid hpp
          clear hpp
          unfold rV
          go_enter Try.func64, Try.ntmps64
          go_wp2_with fail
          refine (Apart.head_ok HC.out.ok HI.out H1.out).mono ?_
          rintro r w2 ⟨rfl, h2⟩
          rw [HPI.out]
          clear y0 y1 y2 y3 y4 y5 y6 q0 q1 q2
          obtain ⟨y0, y1, y2, y3, y4, y5, y6⟩ := box7 h2.skip
          obtain ⟨q0, q1, q2⟩ := HG.out _ h2.skip.skip
          obtain ⟨⟨z0, z1, z2, z3⟩, ⟨f0, f1, f2, f3⟩⟩ := box4 h2
          go_wp2_with (go_at_call 80; refine (HH.out _).mono ?_; rintro r w3 ⟨rfl, rfl⟩)
          have h5 := sset (s' := -1) (lv' := .slice none 0 0) (t' := (x1 : Int)) (pv' := .slice none 0 0) h2
          obtain ⟨w5, hw5⟩ : ∃ w5, (((w2.setCell ⟨b + 1, 0, none⟩ (.int .i64 (-1))).setCell ⟨b + 1, 1, none⟩ (.slice none 0 0)).setCell ⟨b + 1, 2, none⟩ (.int .u64 (x1 : Int))).setCell ⟨b + 1, 3, none⟩ (.slice none 0 0) = w5 := ⟨_, rfl⟩
          rw [hw5] at h5 ⊢
          have H5 : Hid (Own W (([] : List (Nat × Obj)) ++ (sBlk (b + 1) (-1) (.slice none 0 0) x1 (.slice none 0 0) :: (rBlk b B o N k c d e :: m))) w5) := h5
          clear h5 hw5 y0 y1 y2 y3 y4 y5 y6 q0 q1 q2 z0 z1 z2 z3 f0 f1 f2 f3 h2
          have hch := fun ws (hws : Own W ([] ++ (sBlk (b + 1) (-1) (.slice none 0 0) x1 (.slice none 0 0) :: (rBlk b B o N k c d e :: m))) ws) => rchain_p hws HC.out (((HW.out.more (m' := [rBlk b B o N k c d e])).more (m' := [sBlk (b + 1) (-1) (.slice none 0 0) x1 (.slice none 0 0)])).more (m' := [])) x2 HX2.out
          have hpe : chain ofP (nextAt c g) c.S (c.S + 1) [] x2 = partsP c g x2 := rfl
          rw [hpe, HPP.out] at hch
          have h5 := H5.out
          have hw5 := h5.dropL
          obtain ⟨y0, y1, y2, y3, y4, y5, y6⟩ := box7 hw5.skip
          obtain ⟨q0, q1, q2⟩ := HG.out _ hw5.skip.skip
          obtain ⟨⟨z0, z1, z2, z3⟩, ⟨f0, f1, f2, f3⟩⟩ := box4 hw5
          have HCH := Lib.hid hch
          clear hpe hch h5 hw5
          go_region_held3 (fun w' => w'.cell? ⟨b, 0, none⟩ = some (.slice (some ⟨B, o, none⟩) N k) ∧ w'.cell? ⟨b, 1, none⟩ = some (.int .i64 c.C) ∧ w'.cell? ⟨b, 2, none⟩ = some (.int .i64 c.S) ∧ w'.cell? ⟨b, 3, none⟩ = some (.int .i64 c.O) ∧ w'.cell? ⟨b, 4, none⟩ = some (.int .i64 d) ∧ w'.cell? ⟨b, 5, none⟩ = some (.int .i64 e) ∧ w'.cell? ⟨b, 6, none⟩ = some (.int .u64 c.key) ∧ w'.cell? ⟨B, o + p2, none⟩ = some (.int .u64 (x2 : Int))) (first | (refine ⟨?_, ?_, ?_, ?_, ?_, ?_, ?_, ?_⟩ <;> assumption) | go_keep)
            (first | (go_at_call 65; refine (HCH.out _ H5.out.drew).mono ?_; rintro r w6 ⟨rfl, h6⟩; have h7 := h6.dropL; obtain ⟨y0, y1, y2, y3, y4, y5, y6⟩ := box7 h7.skip; obtain ⟨q0, q1, q2⟩ := HG.out _ h7.skip.skip; obtain ⟨⟨z0, z1, z2, z3⟩, ⟨f0, f1, f2, f3⟩⟩ := box4 h7))
          have h8 := sset3 (pv' := .slice none 0 0) h7
          obtain ⟨w8, hw8⟩ : ∃ w8, w6.setCell ⟨b + 1, 3, none⟩ (.slice none 0 0) = w8 := ⟨_, rfl⟩
          rw [hw8] at h8 ⊢
          clear y0 y1 y2 y3 y4 y5 y6 q0 q1 q2 z0 z1 z2 z3 f0 f1 f2 f3 hw8
          obtain ⟨⟨z0, z1, z2, z3⟩, ⟨f0, f1, f2, f3⟩⟩ := box4 h8
          go_wp2_with fail
          have h9 := sset (s' := 0) (lv' := .slice none 0 0) (t' := 0) (pv' := .slice none 0 0) h8
          obtain ⟨⟨e0, e1, e2, e3⟩, -⟩ := box4 h9
          exact bodyPost_ret (v := .tuple #[.agg #[.int .i64 0, .slice none 0 0, .int .u64 0, .slice none 0 0], .bool false]) (by simp [results, Try.f64, go_sem, e0, e1, e2, e3]) rfl ⟨rfl, h9.skip.skip⟩
        | some l2 =>
          simp only
          have HPP := Lib.hid hpp
          clear hpp
          unfold rV
          go_enter Try.func64, Try.ntmps64
          go_wp2_with fail
          refine (Apart.head_ok HC.out.ok HI.out H1.out).mono ?_
          rintro r w2 ⟨rfl, h2⟩
          rw [HPI.out]
          clear y0 y1 y2 y3 y4 y5 y6 q0 q1 q2
          obtain ⟨y0, y1, y2, y3, y4, y5, y6⟩ := box7 h2.skip
          obtain ⟨q0, q1, q2⟩ := HG.out _ h2.skip.skip
          obtain ⟨⟨z0, z1, z2, z3⟩, ⟨f0, f1, f2, f3⟩⟩ := box4 h2
          go_wp2_with (go_at_call 80; refine (HH.out _).mono ?_; rintro r w3 ⟨rfl, rfl⟩)
          have h5 := sset (s' := -1) (lv' := .slice none 0 0) (t' := (x1 : Int)) (pv' := .slice none 0 0) h2
          obtain ⟨w5, hw5⟩ : ∃ w5, (((w2.setCell ⟨b + 1, 0, none⟩ (.int .i64 (-1))).setCell ⟨b + 1, 1, none⟩ (.slice none 0 0)).setCell ⟨b + 1, 2, none⟩ (.int .u64 (x1 : Int))).setCell ⟨b + 1, 3, none⟩ (.slice none 0 0) = w5 := ⟨_, rfl⟩
          rw [hw5] at h5 ⊢
          have H5 : Hid (Own W (([] : List (Nat × Obj)) ++ (sBlk (b + 1) (-1) (.slice none 0 0) x1 (.slice none 0 0) :: (rBlk b B o N k c d e :: m))) w5) := h5
          clear h5 hw5 y0 y1 y2 y3 y4 y5 y6 q0 q1 q2 z0 z1 z2 z3 f0 f1 f2 f3 h2
          have hch := fun ws (hws : Own W ([] ++ (sBlk (b + 1) (-1) (.slice none 0 0) x1 (.slice none 0 0) :: (rBlk b B o N k c d e :: m))) ws) => rchain_p hws HC.out (((HW.out.more (m' := [rBlk b B o N k c d e])).more (m' := [sBlk (b + 1) (-1) (.slice none 0 0) x1 (.slice none 0 0)])).more (m' := [])) x2 HX2.out
          have hpe : chain ofP (nextAt c g) c.S (c.S + 1) [] x2 = partsP c g x2 := rfl
          rw [hpe, HPP.out] at hch
          have h5 := H5.out
          have hw5 := h5.dropL
          obtain ⟨y0, y1, y2, y3, y4, y5, y6⟩ := box7 hw5.skip
          obtain ⟨q0, q1, q2⟩ := HG.out _ hw5.skip.skip
          obtain ⟨⟨z0, z1, z2, z3⟩, ⟨f0, f1, f2, f3⟩⟩ := box4 hw5
          have HCH := Lib.hid hch
          clear hpe hch h5 hw5
          go_region_held3 (fun w' => w'.cell? ⟨b, 0, none⟩ = some (.slice (some ⟨B, o, none⟩) N k) ∧ w'.cell? ⟨b, 1, none⟩ = some (.int .i64 c.C) ∧ w'.cell? ⟨b, 2, none⟩ = some (.int .i64 c.S) ∧ w'.cell? ⟨b, 3, none⟩ = some (.int .i64 c.O) ∧ w'.cell? ⟨b, 4, none⟩ = some (.int .i64 d) ∧ w'.cell? ⟨b, 5, none⟩ = some (.int .i64 e) ∧ w'.cell? ⟨b, 6, none⟩ = some (.int .u64 c.key) ∧ w'.cell? ⟨B, o + p2, none⟩ = some (.int .u64 (x2 : Int))) (first | (refine ⟨?_, ?_, ?_, ?_, ?_, ?_, ?_, ?_⟩ <;> assumption) | go_keep)
            (first | (go_at_call 65; refine (HCH.out _ H5.out.drew).mono ?_; rintro r w6 ⟨v6, b6, rfl, K6, h6⟩; obtain ⟨A6, c6, hv6, -, -⟩ := K6.out.slice; subst hv6; have h7 := h6.dropL.dropL; obtain ⟨y0, y1, y2, y3, y4, y5, y6⟩ := box7 h7.skip; obtain ⟨q0, q1, q2⟩ := HG.out _ h7.skip.skip; obtain ⟨⟨z0, z1, z2, z3⟩, ⟨f0, f1, f2, f3⟩⟩ := box4 h7))
          have hq : Own W (sBlk (b + 1) (-1) (.slice none 0 0) x1 (.slice none 0 0) :: (rBlk b B o N k c d e :: (b6 ++ ([] ++ m)))) w6 := h6.perm (slot_perm _ _ _ _ _)
          have h8 := sset3 (pv' := .slice A6 l2.length c6) hq
          obtain ⟨w8, hw8⟩ : ∃ w8, w6.setCell ⟨b + 1, 3, none⟩ (.slice A6 l2.length c6) = w8 := ⟨_, rfl⟩
          rw [hw8] at h8 ⊢
          clear y0 y1 y2 y3 y4 y5 y6 q0 q1 q2 z0 z1 z2 z3 f0 f1 f2 f3 hw8
          obtain ⟨⟨z0, z1, z2, z3⟩, ⟨f0, f1, f2, f3⟩⟩ := box4 h8
          go_wp2_with fail
          have h9 := sset (s' := (-1)) (lv' := (.slice none 0 0)) (t' := (x1 : Int)) (pv' := .slice A6 l2.length c6) h8
          obtain ⟨⟨e0, e1, e2, e3⟩, -⟩ := box4 h9
          exact bodyPost_ret (v := .tuple #[.agg #[.int .i64 (-1), (.slice none 0 0), .int .u64 x1, .slice A6 l2.length c6], .bool true]) (by simp [results, Try.f64, go_sem, e0, e1, e2, e3]) rfl ⟨(.slice none 0 0), [], _, b6, rfl, SlO.nil _ _ _, K6, (h9.skip.skip).swap⟩
      · rw [if_neg hm1]
        have hsb : (s == -1) = false := beq_eq_false_iff_ne.2 hm1
        obtain ⟨j, rfl⟩ : ∃ j : Nat, s = j := ⟨s.toNat, by omega⟩
        have hjS : j < c.S := by omega
        have hob : -1 ≤ ob := by omega
        have hrl := fun ws (hws : Own W (sBlk (b + 1) j (.slice none 0 0) x1 (.slice none 0 0) :: (rBlk b B o N k c d e :: m)) ws) => rlist_spec hws HC.out ((HW.out.more (m' := [rBlk b B o N k c d e])).more (m' := [sBlk (b + 1) j (.slice none 0 0) x1 (.slice none 0 0)])) j hjS ob hob
        clear hge
        cases hl : listP c g j ob with
        | none =>
          rw [hl] at hrl
          have HRL := Lib.hid hrl
          simp only
          clear hl hrl
          unfold rV
          go_enter Try.func64, Try.ntmps64
          go_wp2_with fail
          refine (Apart.head_ok HC.out.ok HI.out H1.out).mono ?_
          rintro r w2 ⟨rfl, h2⟩
          rw [HPI.out]
          clear y0 y1 y2 y3 y4 y5 y6 q0 q1 q2
          obtain ⟨y0, y1, y2, y3, y4, y5, y6⟩ := box7 h2.skip
          obtain ⟨q0, q1, q2⟩ := HG.out _ h2.skip.skip
          obtain ⟨⟨z0, z1, z2, z3⟩, ⟨f0, f1, f2, f3⟩⟩ := box4 h2
          go_wp2_with (go_at_call 80; refine (HH.out _).mono ?_; rintro r w3 ⟨rfl, rfl⟩)
          have h5 := sset (s' := (j : Int)) (lv' := .slice none 0 0) (t' := (x1 : Int)) (pv' := .slice none 0 0) h2
          refine (HRL.out _ h5).mono ?_
          rintro r w6 ⟨rfl, h6⟩
          clear y0 y1 y2 y3 y4 y5 y6 q0 q1 q2 z0 z1 z2 z3 f0 f1 f2 f3 h2
          obtain ⟨⟨z0, z1, z2, z3⟩, ⟨f0, f1, f2, f3⟩⟩ := box4 h6
          go_wp2_with fail
          have h8 := sset1 (lv' := .slice none 0 0) h6
          have h9 := sset (s' := 0) (lv' := .slice none 0 0) (t' := 0) (pv' := .slice none 0 0) h8
          obtain ⟨⟨e0, e1, e2, e3⟩, -⟩ := box4 h9
          exact bodyPost_ret (v := .tuple #[.agg #[.int .i64 0, .slice none 0 0, .int .u64 0, .slice none 0 0], .bool false]) (by simp [results, Try.f64, go_sem, e0, e1, e2, e3]) rfl ⟨rfl, h9.skip.skip⟩
        | some l1 =>
          rw [hl] at hrl
          have HRL := Lib.hid hrl
          simp only
          clear hl hrl
          cases hpp : partsP c g x2 with
          | none =>
            simp only
            have HPP := Lib.hid hpp
            clear hpp
            unfold rV
            go_enter Try.func64, Try.ntmps64
            go_wp2_with fail
            refine (Apart.head_ok HC.out.ok HI.out H1.out).mono ?_
            rintro r w2 ⟨rfl, h2⟩
            rw [HPI.out]
            clear y0 y1 y2 y3 y4 y5 y6 q0 q1 q2
            obtain ⟨y0, y1, y2, y3, y4, y5, y6⟩ := box7 h2.skip
            obtain ⟨q0, q1, q2⟩ := HG.out _ h2.skip.skip
            obtain ⟨⟨z0, z1, z2, z3⟩, ⟨f0, f1, f2, f3⟩⟩ := box4 h2
            go_wp2_with (go_at_call 80; refine (HH.out _).mono ?_; rintro r w3 ⟨rfl, rfl⟩)
            have h5 := sset (s' := (j : Int)) (lv' := .slice none 0 0) (t' := (x1 : Int)) (pv' := .slice none 0 0) h2
            refine (HRL.out _ h5).mono ?_
            rintro r w6 ⟨v7, b7, rfl, K7, h6⟩
            obtain ⟨A7, c7, hv7, -, -⟩ := K7.out.slice
            subst hv7
            clear y0 y1 y2 y3 y4 y5 y6 q0 q1 q2 z0 z1 z2 z3 f0 f1 f2 f3 h2
            have h7 : Own W (sBlk (b + 1) j (.slice none 0 0) x1 (.slice none 0 0) :: (b7 ++ (rBlk b B o N k c d e :: m))) w6 := h6.perm List.perm_middle
            obtain ⟨⟨z0, z1, z2, z3⟩, ⟨f0, f1, f2, f3⟩⟩ := box4 h7
            have h8 := sset1 (lv' := .slice A7 l1.length c7) h7
            obtain ⟨w5, hw5⟩ : ∃ w5, w6.setCell ⟨b + 1, 1, none⟩ (.slice A7 l1.length c7) = w5 := ⟨_, rfl⟩
            have H5 : Hid (Own W (b7 ++ (sBlk (b + 1) j (.slice A7 l1.length c7) x1 (.slice none 0 0) :: (rBlk b B o N k c d e :: m))) w5) := by rw [hw5] at h8; exact h8.perm List.perm_middle.symm
            go_wp2_with fail
            clear h6 h7 h8 hw5 z0 z1 z2 z3 f0 f1 f2 f3
            have hch := fun ws (hws : Own W (b7 ++ (sBlk (b + 1) (j) (.slice A7 l1.length c7) x1 (.slice none 0 0) :: (rBlk b B o N k c d e :: m))) ws) => rchain_p hws HC.out (((HW.out.more (m' := [rBlk b B o N k c d e])).more (m' := [sBlk (b + 1) (j) (.slice A7 l1.length c7) x1 (.slice none 0 0)])).more (m' := b7)) x2 HX2.out
            have hpe : chain ofP (nextAt c g) c.S (c.S + 1) [] x2 = partsP c g x2 := rfl
            rw [hpe, HPP.out] at hch
            have h5 := H5.out
            have hw5 := h5.dropL
            obtain ⟨y0, y1, y2, y3, y4, y5, y6⟩ := box7 hw5.skip
            obtain ⟨q0, q1, q2⟩ := HG.out _ hw5.skip.skip
            obtain ⟨⟨z0, z1, z2, z3⟩, ⟨f0, f1, f2, f3⟩⟩ := box4 hw5
            have HCH := Lib.hid hch
            clear hpe hch h5 hw5
            go_region_held3 (fun w' => w'.cell? ⟨b, 0, none⟩ = some (.slice (some ⟨B, o, none⟩) N k) ∧ w'.cell? ⟨b, 1, none⟩ = some (.int .i64 c.C) ∧ w'.cell? ⟨b, 2, none⟩ = some (.int .i64 c.S) ∧ w'.cell? ⟨b, 3, none⟩ = some (.int .i64 c.O) ∧ w'.cell? ⟨b, 4, none⟩ = some (.int .i64 d) ∧ w'.cell? ⟨b, 5, none⟩ = some (.int .i64 e) ∧ w'.cell? ⟨b, 6, none⟩ = some (.int .u64 c.key) ∧ w'.cell? ⟨B, o + p2, none⟩ = some (.int .u64 (x2 : Int))) (first | (refine ⟨?_, ?_, ?_, ?_, ?_, ?_, ?_, ?_⟩ <;> assumption) | go_keep)
              (first | (go_at_call 65; refine (HCH.out _ H5.out.drew).mono ?_; rintro r w6 ⟨rfl, h6⟩; have h7 := h6.dropL; obtain ⟨y0, y1, y2, y3, y4, y5, y6⟩ := box7 h7.skip; obtain ⟨q0, q1, q2⟩ := HG.out _ h7.skip.skip; obtain ⟨⟨z0, z1, z2, z3⟩, ⟨f0, f1, f2, f3⟩⟩ := box4 h7))
            have h8 := sset3 (pv' := .slice none 0 0) h7
            obtain ⟨w8, hw8⟩ : ∃ w8, w6.setCell ⟨b + 1, 3, none⟩ (.slice none 0 0) = w8 := ⟨_, rfl⟩
            rw [hw8] at h8 ⊢
            clear y0 y1 y2 y3 y4 y5 y6 q0 q1 q2 z0 z1 z2 z3 f0 f1 f2 f3 hw8
            obtain ⟨⟨z0, z1, z2, z3⟩, ⟨f0, f1, f2, f3⟩⟩ := box4 h8
            go_wp2_with fail
            have h9 := sset (s' := 0) (lv' := .slice none 0 0) (t' := 0) (pv' := .slice none 0 0) h8
            obtain ⟨⟨e0, e1, e2, e3⟩, -⟩ := box4 h9
            exact bodyPost_ret (v := .tuple #[.agg #[.int .i64 0, .slice none 0 0, .int .u64 0, .slice none 0 0], .bool false]) (by simp [results, Try.f64, go_sem, e0, e1, e2, e3]) rfl ⟨rfl, h9.skip.skip⟩
          | some l2 =>
            simp only
            have HPP := Lib.hid hpp
            clear hpp
            unfold rV
            go_enter Try.func64, Try.ntmps64
            go_wp2_with fail
            refine (Apart.head_ok HC.out.ok HI.out H1.out).mono ?_
            rintro r w2 ⟨rfl, h2⟩
            rw [HPI.out]
            clear y0 y1 y2 y3 y4 y5 y6 q0 q1 q2
            obtain ⟨y0, y1, y2, y3, y4, y5, y6⟩ := box7 h2.skip
            obtain ⟨q0, q1, q2⟩ := HG.out _ h2.skip.skip
            obtain ⟨⟨z0, z1, z2, z3⟩, ⟨f0, f1, f2, f3⟩⟩ := box4 h2
            go_wp2_with (go_at_call 80; refine (HH.out _).mono ?_; rintro r w3 ⟨rfl, rfl⟩)
            have h5 := sset (s' := (j : Int)) (lv' := .slice none 0 0) (t' := (x1 : Int)) (pv' := .slice none 0 0) h2
            refine (HRL.out _ h5).mono ?_
            rintro r w6 ⟨v7, b7, rfl, K7, h6⟩
            obtain ⟨A7, c7, hv7, -, -⟩ := K7.out.slice
            subst hv7
            clear y0 y1 y2 y3 y4 y5 y6 q0 q1 q2 z0 z1 z2 z3 f0 f1 f2 f3 h2
            have h7 : Own W (sBlk (b + 1) j (.slice none 0 0) x1 (.slice none 0 0) :: (b7 ++ (rBlk b B o N k c d e :: m))) w6 := h6.perm List.perm_middle
            obtain ⟨⟨z0, z1, z2, z3⟩, ⟨f0, f1, f2, f3⟩⟩ := box4 h7
            have h8 := sset1 (lv' := .slice A7 l1.length c7) h7
            obtain ⟨w5, hw5⟩ : ∃ w5, w6.setCell ⟨b + 1, 1, none⟩ (.slice A7 l1.length c7) = w5 := ⟨_, rfl⟩
            have H5 : Hid (Own W (b7 ++ (sBlk (b + 1) j (.slice A7 l1.length c7) x1 (.slice none 0 0) :: (rBlk b B o N k c d e :: m))) w5) := by rw [hw5] at h8; exact h8.perm List.perm_middle.symm
            go_wp2_with fail
            clear h6 h7 h8 hw5 z0 z1 z2 z3 f0 f1 f2 f3
            have hch := fun ws (hws : Own W (b7 ++ (sBlk (b + 1) (j) (.slice A7 l1.length c7) x1 (.slice none 0 0) :: (rBlk b B o N k c d e :: m))) ws) => rchain_p hws HC.out (((HW.out.more (m' := [rBlk b B o N k c d e])).more (m' := [sBlk (b + 1) (j) (.slice A7 l1.length c7) x1 (.slice none 0 0)])).more (m' := b7)) x2 HX2.out
            have hpe : chain ofP (nextAt c g) c.S (c.S + 1) [] x2 = partsP c g x2 := rfl
            rw [hpe, HPP.out] at hch
            have h5 := H5.out
            have hw5 := h5.dropL
            obtain ⟨y0, y1, y2, y3, y4, y5, y6⟩ := box7 hw5.skip
            obtain ⟨q0, q1, q2⟩ := HG.out _ hw5.skip.skip
            obtain ⟨⟨z0, z1, z2, z3⟩, ⟨f0, f1, f2, f3⟩⟩ := box4 hw5
            have HCH := Lib.hid hch
            clear hpe hch h5 hw5
            go_region_held3 (fun w' => w'.cell? ⟨b, 0, none⟩ = some (.slice (some ⟨B, o, none⟩) N k) ∧ w'.cell? ⟨b, 1, none⟩ = some (.int .i64 c.C) ∧ w'.cell? ⟨b, 2, none⟩ = some (.int .i64 c.S) ∧ w'.cell? ⟨b, 3, none⟩ = some (.int .i64 c.O) ∧ w'.cell? ⟨b, 4, none⟩ = some (.int .i64 d) ∧ w'.cell? ⟨b, 5, none⟩ = some (.int .i64 e) ∧ w'.cell? ⟨b, 6, none⟩ = some (.int .u64 c.key) ∧ w'.cell? ⟨B, o + p2, none⟩ = some (.int .u64 (x2 : Int))) (first | (refine ⟨?_, ?_, ?_, ?_, ?_, ?_, ?_, ?_⟩ <;> assumption) | go_keep)
              (first | (go_at_call 65; refine (HCH.out _ H5.out.drew).mono ?_; rintro r w6 ⟨v6, b6, rfl, K6, h6⟩; obtain ⟨A6, c6, hv6, -, -⟩ := K6.out.slice; subst hv6; have h7 := h6.dropL.dropL; obtain ⟨y0, y1, y2, y3, y4, y5, y6⟩ := box7 h7.skip; obtain ⟨q0, q1, q2⟩ := HG.out _ h7.skip.skip; obtain ⟨⟨z0, z1, z2, z3⟩, ⟨f0, f1, f2, f3⟩⟩ := box4 h7))
            have hq : Own W (sBlk (b + 1) (j) (.slice A7 l1.length c7) x1 (.slice none 0 0) :: (rBlk b B o N k c d e :: (b6 ++ (b7 ++ m)))) w6 := h6.perm (slot_perm _ _ _ _ _)
            have h8 := sset3 (pv' := .slice A6 l2.length c6) hq
            obtain ⟨w8, hw8⟩ : ∃ w8, w6.setCell ⟨b + 1, 3, none⟩ (.slice A6 l2.length c6) = w8 := ⟨_, rfl⟩
            rw [hw8] at h8 ⊢
            clear y0 y1 y2 y3 y4 y5 y6 q0 q1 q2 z0 z1 z2 z3 f0 f1 f2 f3 hw8
            obtain ⟨⟨z0, z1, z2, z3⟩, ⟨f0, f1, f2, f3⟩⟩ := box4 h8
            go_wp2_with fail
            have h9 := sset (s' := (j)) (lv' := (.slice A7 l1.length c7)) (t' := (x1 : Int)) (pv' := .slice A6 l2.length c6) h8
            obtain ⟨⟨e0, e1, e2, e3⟩, -⟩ := box4 h9
            exact bodyPost_ret (v := .tuple #[.agg #[.int .i64 (j), (.slice A7 l1.length c7), .int .u64 x1, .slice A6 l2.length c6], .bool true]) (by simp [results, Try.f64, go_sem, e0, e1, e2, e3]) rfl ⟨(.slice A7 l1.length c7), b7, _, b6, rfl, K7, K6, (h9.skip.skip).swap⟩
-- BODYEND
end
end Go.Proofs.Ytigakendeghoaaa.See
