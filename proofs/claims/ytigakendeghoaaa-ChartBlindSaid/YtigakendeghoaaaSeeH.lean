/-
  Contract: a slab (reader.slab). No condition.
-/
import Derived.Test.YtigakendeghoaaaSeeG
import Derived.Test.YtigakendeghoaaaSeeB
namespace Go.Proofs.Ytigakendeghoaaa.See
open Go.RowKit
open chartPlaces (Ok)
attribute [local go_sem ↓] Go.wp_at_zero Go.wp_at_succ
section
variable {W w : World} {M m : List (Nat × Obj)} {B o N k b : Nat} {g : List Nat} {c : Ch} {d e : Int}
/-- what slab answers -/
def SlabPost (W : World) (m : List (Nat × Obj)) (r : Option SlabP) (e : Ending) (w' : World) : Prop := match r with
  | some x => ∃ v bs, e = .returned (.tuple #[.agg #[.int .i64 x.counts.inuse, .int .i64 x.counts.objects, .bool x.counts.frozen, .bool x.counts.live, v], .bool true]) ∧ Hid (IntsOwn true v x.first bs) ∧ Own W (bs ++ m) w'
  | none => e = .returned (.tuple #[.agg #[.int .i64 0, .int .i64 0, .bool false, .bool false, .slice none 0 0], .bool false]) ∧ Own W m w'
/-- a slab's block -/
def lBlk (b : Nat) (a o : Int) (f l : Bool) (v : Value) : Nat × Obj := (b, .cells #[.int .i64 a, .int .i64 o, .bool f, .bool l, v] 82)
theorem box5 {b : Nat} {a o : Int} {f l : Bool} {v : Value} (h : Own W (lBlk b a o f l v :: m) w) : (w.cell? ⟨b, 0, none⟩ = some (.int .i64 a) ∧ w.cell? ⟨b, 1, none⟩ = some (.int .i64 o) ∧ w.cell? ⟨b, 2, none⟩ = some (.bool f) ∧ w.cell? ⟨b, 3, none⟩ = some (.bool l) ∧ w.cell? ⟨b, 4, none⟩ = some v) ∧ (w.frozen? ⟨b, 0, none⟩ = false ∧ w.frozen? ⟨b, 1, none⟩ = false ∧ w.frozen? ⟨b, 2, none⟩ = false ∧ w.frozen? ⟨b, 3, none⟩ = false ∧ w.frozen? ⟨b, 4, none⟩ = false) :=
  ⟨⟨h.cell List.mem_cons_self 0, h.cell List.mem_cons_self 1, h.cell List.mem_cons_self 2, h.cell List.mem_cons_self 3, h.cell List.mem_cons_self 4⟩, ⟨h.frozen List.mem_cons_self 0, h.frozen List.mem_cons_self 1, h.frozen List.mem_cons_self 2, h.frozen List.mem_cons_self 3, h.frozen List.mem_cons_self 4⟩⟩
theorem lset {b : Nat} {a o a' o' : Int} {f l f' l' : Bool} {v v' : Value} (h : Own W (lBlk b a o f l v :: m) w) : Own W (lBlk b a' o' f' l' v' :: m) (((((w.setCell ⟨b, 0, none⟩ (.int .i64 a')).setCell ⟨b, 1, none⟩ (.int .i64 o')).setCell ⟨b, 2, none⟩ (.bool f')).setCell ⟨b, 3, none⟩ (.bool l')).setCell ⟨b, 4, none⟩ v') := by
  have h1 := ((((h.set 0 (.int .i64 a')).set 1 (.int .i64 o')).set 2 (.bool f')).set 3 (.bool l')).set 4 v'
  exact h1
theorem lset4 {b : Nat} {a o a' o' : Int} {f l f' l' : Bool} {v : Value} (h : Own W (lBlk b a o f l v :: m) w) : Own W (lBlk b a' o' f' l' v :: m) ((((w.setCell ⟨b, 0, none⟩ (.int .i64 a')).setCell ⟨b, 1, none⟩ (.int .i64 o')).setCell ⟨b, 2, none⟩ (.bool f')).setCell ⟨b, 3, none⟩ (.bool l')) := by
  have h1 := (((h.set 0 (.int .i64 a')).set 1 (.int .i64 o')).set 2 (.bool f')).set 3 (.bool l')
  exact h1
theorem lsetv {b : Nat} {a o : Int} {f l : Bool} {v v' : Value} (h : Own W (lBlk b a o f l v :: m) w) : Own W (lBlk b a o f l v' :: m) (w.setCell ⟨b, 4, none⟩ v') := h.set 4 v'
set_option maxRecDepth 100000 in
set_option maxHeartbeats 4000000 in
theorem rslab_spec (h : Own W m w) (hc : COk c d e) (hw : WOk W m B o N k g c) (s : Nat) (hs : s < c.S) :
    Calls Try.prog 67 #[rV B o N k c d e, .int .i64 s] w (SlabPost W m (slabP c g s)) := by
  obtain ⟨n1, n2, n3, n4, n5, n6⟩ := hc.nums
  have h1 := (h.new (.cells #[.slice (some ⟨B, o, none⟩) N k, .int .i64 c.C, .int .i64 c.S, .int .i64 c.O, .int .i64 d, .int .i64 e, .int .u64 c.key] 84)).new (.cells #[.int .i64 0, .int .i64 0, .bool false, .bool false, .slice none 0 0] 82)
  obtain ⟨b, hb⟩ : ∃ b, w.heap.size = b := ⟨_, rfl⟩
  simp only [World.size_alloc] at h1
  rw [hb] at h1
  have h1 : Own W (lBlk (b + 1) 0 0 false false (.slice none 0 0) :: (rBlk b B o N k c d e :: m)) _ := h1
  obtain ⟨y0, y1, y2, y3, y4, y5, y6⟩ := box7 h1.skip
  have hN := hw.n
  unfold Ch.words at hN
  have hii : 0 ≤ (s : Int) ∧ (s : Int) < (c.S : Int) := by omega
  obtain ⟨p, hp⟩ : ∃ p : Nat, 4 * c.C + 4 + 4 * s = p := ⟨_, rfl⟩
  have hpi : 4 * (c.C : Int) + 4 + 4 * (s : Int) = (p : Int) := by omega
  have HPI := Lib.hid hpi
  have hpN : p + 1 < N := by omega
  have hp0 : (0 : Int) ≤ (p : Int) := by omega
  have hp1 : (p : Int) < (N : Int) := by omega
  have hp2 : (p : Int) + 1 < (N : Int) := by omega
  have hp5 : (0 : Int) ≤ (p : Int) + 1 := by omega
  have hpb : p ≤ 200 := by omega
  obtain ⟨x0, hx0⟩ : ∃ x, g[p]? = some x := ⟨_, List.getElem?_eq_getElem (by rw [hw.len]; omega)⟩
  obtain ⟨x1, hx1⟩ : ∃ x, g[p + 1]? = some x := ⟨_, List.getElem?_eq_getElem (by rw [hw.len]; omega)⟩
  have a0 : at_ g (4 * c.C + 4 + 4 * s) = x0 := by unfold at_; rw [hp, List.getD_eq_getElem?_getD, hx0]; rfl
  have a1 : at_ g (4 * c.C + 4 + 4 * s + 1) = x1 := by unfold at_; rw [hp, List.getD_eq_getElem?_getD, hx1]; rfl
  have hcs := fun ws (hws : Own W (lBlk (b + 1) 0 0 false false (.slice none 0 0) :: (rBlk b B o N k c d e :: m)) ws) => counts_spec hws x1 (hw.w64 x1 (List.mem_of_getElem? hx1))
  have HG : Hid (∀ ws, Own W m ws → ws.cell? ⟨B, o + p, none⟩ = some (.int .u64 (x0 : Int)) ∧ ws.cell? ⟨B, o + (p + 1), none⟩ = some (.int .u64 (x1 : Int))) := fun ws hws => ⟨hw.rd ws hws p x0 hx0, hw.rd ws hws (p + 1) x1 hx1⟩
  unfold slabP
  rw [a0, a1]
  unfold countsV at hcs
  have HC := Lib.hid hc
  have HW := Lib.hid hw
  have HI := Lib.hid hii
  have H1 := Lib.hid h1
  clear hN hp hpi hx0 hx1 a0 a1 hw hc hii h1 h
-- BODY
  cases hh : countsOf x1 with
  | none =>
    rw [hh] at hcs
    have HH := Lib.hid hcs
    simp only
    clear hh hcs
    unfold rV
    go_enter Try.func67, Try.ntmps67
    go_wp2_with fail
    refine (Apart.first_ok HC.out.ok HI.out H1.out).mono ?_
    rintro r w2 ⟨rfl, h2⟩
    rw [HPI.out]
    clear y0 y1 y2 y3 y4 y5 y6
    obtain ⟨y0, y1, y2, y3, y4, y5, y6⟩ := box7 h2.skip
    obtain ⟨q0, q1⟩ := HG.out _ h2.skip.skip
    go_wp2_with fail
    refine (HH.out _ h2).mono ?_
    rintro r w3 ⟨rfl, h3⟩
    clear y0 y1 y2 y3 y4 y5 y6 q0 q1
    obtain ⟨y0, y1, y2, y3, y4, y5, y6⟩ := box7 h3.skip
    obtain ⟨q0, q1⟩ := HG.out _ h3.skip.skip
    obtain ⟨⟨z0, z1, z2, z3, z4⟩, ⟨f0, f1, f2, f3, f4⟩⟩ := box5 h3
    go_wp2_with fail
    have h8 := lset4 (a' := 0) (o' := 0) (f' := false) (l' := false) h3
    have h9 := lset (a' := 0) (o' := 0) (f' := false) (l' := false) (v' := (.slice none 0 0)) h8
    obtain ⟨⟨e0, e1, e2, e3, e4⟩, -⟩ := box5 h9
    exact bodyPost_ret (v := .tuple #[.agg #[.int .i64 0, .int .i64 0, .bool false, .bool false, (.slice none 0 0)], .bool false]) (by simp [results, Try.f67, go_sem, e0, e1, e2, e3, e4]) rfl ⟨rfl, h9.skip.skip⟩
  | some v =>
    obtain ⟨n0, n1', fr, li⟩ := v
    rw [hh] at hcs
    simp only at hcs ⊢
    have HH := Lib.hid hcs
    clear hh hcs
    by_cases hbig : c.O < x0
    · have hbi : (c.O : Int) < (x0 : Int) := by omega
      rw [if_pos hbig]
      unfold rV
      go_enter Try.func67, Try.ntmps67
      go_wp2_with fail
      refine (Apart.first_ok HC.out.ok HI.out H1.out).mono ?_
      rintro r w2 ⟨rfl, h2⟩
      rw [HPI.out]
      clear y0 y1 y2 y3 y4 y5 y6
      obtain ⟨y0, y1, y2, y3, y4, y5, y6⟩ := box7 h2.skip
      obtain ⟨q0, q1⟩ := HG.out _ h2.skip.skip
      go_wp2_with fail
      refine (HH.out _ h2).mono ?_
      rintro r w3 ⟨rfl, h3⟩
      clear y0 y1 y2 y3 y4 y5 y6 q0 q1
      obtain ⟨y0, y1, y2, y3, y4, y5, y6⟩ := box7 h3.skip
      obtain ⟨q0, q1⟩ := HG.out _ h3.skip.skip
      obtain ⟨⟨z0, z1, z2, z3, z4⟩, ⟨f0, f1, f2, f3, f4⟩⟩ := box5 h3
      go_wp2_with fail
      have h8 := lset4 (a' := (n0 : Int)) (o' := (n1' : Int)) (f' := fr) (l' := li) h3
      have h9 := lset (a' := 0) (o' := 0) (f' := false) (l' := false) (v' := (.slice none 0 0)) h8
      obtain ⟨⟨e0, e1, e2, e3, e4⟩, -⟩ := box5 h9
      exact bodyPost_ret (v := .tuple #[.agg #[.int .i64 0, .int .i64 0, .bool false, .bool false, (.slice none 0 0)], .bool false]) (by simp [results, Try.f67, go_sem, e0, e1, e2, e3, e4]) rfl ⟨rfl, h9.skip.skip⟩
    · have hbi : ¬ (c.O : Int) < (x0 : Int) := by omega
      have hx16 : (x0 : Int) ≤ 16 := by omega
      rw [if_neg hbig]
      have hrl := fun ws (hws : Own W (lBlk (b + 1) n0 n1' fr li (.slice none 0 0) :: (rBlk b B o N k c d e :: m)) ws) => rlist_spec hws HC.out ((HW.out.more (m' := [rBlk b B o N k c d e])).more (m' := [lBlk (b + 1) n0 n1' fr li (.slice none 0 0)])) s hs ((x0 : Int) - 1) (by omega)
      cases hl : listP c g s ((x0 : Int) - 1) with
      | none =>
        rw [hl] at hrl
        have HRL := Lib.hid hrl
        simp only
        clear hl hrl
        unfold rV
        go_enter Try.func67, Try.ntmps67
        go_wp2_with fail
        refine (Apart.first_ok HC.out.ok HI.out H1.out).mono ?_
        rintro r w2 ⟨rfl, h2⟩
        rw [HPI.out]
        clear y0 y1 y2 y3 y4 y5 y6
        obtain ⟨y0, y1, y2, y3, y4, y5, y6⟩ := box7 h2.skip
        obtain ⟨q0, q1⟩ := HG.out _ h2.skip.skip
        go_wp2_with fail
        refine (HH.out _ h2).mono ?_
        rintro r w3 ⟨rfl, h3⟩
        clear y0 y1 y2 y3 y4 y5 y6 q0 q1
        obtain ⟨y0, y1, y2, y3, y4, y5, y6⟩ := box7 h3.skip
        obtain ⟨q0, q1⟩ := HG.out _ h3.skip.skip
        obtain ⟨⟨z0, z1, z2, z3, z4⟩, ⟨f0, f1, f2, f3, f4⟩⟩ := box5 h3
        go_wp2_with fail
        have h4 := lset4 (a' := (n0 : Int)) (o' := (n1' : Int)) (f' := fr) (l' := li) h3
        refine (HRL.out _ h4).mono ?_
        rintro r w6 ⟨rfl, h6⟩
        clear y0 y1 y2 y3 y4 y5 y6 q0 q1 z0 z1 z2 z3 z4 f0 f1 f2 f3 f4 h2 h3 h4
        obtain ⟨⟨z0, z1, z2, z3, z4⟩, ⟨f0, f1, f2, f3, f4⟩⟩ := box5 h6
        go_wp2_with fail
        have h8 := lsetv (v' := .slice none 0 0) h6
        have h9 := lset (a' := 0) (o' := 0) (f' := false) (l' := false) (v' := (.slice none 0 0)) h8
        obtain ⟨⟨e0, e1, e2, e3, e4⟩, -⟩ := box5 h9
        exact bodyPost_ret (v := .tuple #[.agg #[.int .i64 0, .int .i64 0, .bool false, .bool false, (.slice none 0 0)], .bool false]) (by simp [results, Try.f67, go_sem, e0, e1, e2, e3, e4]) rfl ⟨rfl, h9.skip.skip⟩
      | some l1 =>
        rw [hl] at hrl
        have HRL := Lib.hid hrl
        simp only
        clear hl hrl
        unfold rV
        go_enter Try.func67, Try.ntmps67
        go_wp2_with fail
        refine (Apart.first_ok HC.out.ok HI.out H1.out).mono ?_
        rintro r w2 ⟨rfl, h2⟩
        rw [HPI.out]
        clear y0 y1 y2 y3 y4 y5 y6
        obtain ⟨y0, y1, y2, y3, y4, y5, y6⟩ := box7 h2.skip
        obtain ⟨q0, q1⟩ := HG.out _ h2.skip.skip
        go_wp2_with fail
        refine (HH.out _ h2).mono ?_
        rintro r w3 ⟨rfl, h3⟩
        clear y0 y1 y2 y3 y4 y5 y6 q0 q1
        obtain ⟨y0, y1, y2, y3, y4, y5, y6⟩ := box7 h3.skip
        obtain ⟨q0, q1⟩ := HG.out _ h3.skip.skip
        obtain ⟨⟨z0, z1, z2, z3, z4⟩, ⟨f0, f1, f2, f3, f4⟩⟩ := box5 h3
        go_wp2_with fail
        have h4 := lset4 (a' := (n0 : Int)) (o' := (n1' : Int)) (f' := fr) (l' := li) h3
        refine (HRL.out _ h4).mono ?_
        rintro r w6 ⟨v7, b7, rfl, K7, h6⟩
        obtain ⟨A7, c7, hv7, -, -⟩ := K7.out.slice
        subst hv7
        clear y0 y1 y2 y3 y4 y5 y6 q0 q1 z0 z1 z2 z3 z4 f0 f1 f2 f3 f4 h2 h3 h4
        have h7 : Own W (lBlk (b + 1) n0 n1' fr li (.slice none 0 0) :: (b7 ++ (rBlk b B o N k c d e :: m))) w6 := h6.perm List.perm_middle
        obtain ⟨⟨z0, z1, z2, z3, z4⟩, ⟨f0, f1, f2, f3, f4⟩⟩ := box5 h7
        go_wp2_with fail
        have h8 := lsetv (v' := .slice A7 l1.length c7) h7
        have h9 := lset (a' := (n0 : Int)) (o' := (n1' : Int)) (f' := fr) (l' := li) (v' := (.slice A7 l1.length c7)) h8
        obtain ⟨⟨e0, e1, e2, e3, e4⟩, -⟩ := box5 h9
        exact bodyPost_ret (v := .tuple #[.agg #[.int .i64 (n0 : Int), .int .i64 (n1' : Int), .bool fr, .bool li, (.slice A7 l1.length c7)], .bool true]) (by simp [results, Try.f67, go_sem, e0, e1, e2, e3, e4]) rfl ⟨_, b7, rfl, K7, h9.skip.drop1⟩
-- BODYEND
end
end Go.Proofs.Ytigakendeghoaaa.See
