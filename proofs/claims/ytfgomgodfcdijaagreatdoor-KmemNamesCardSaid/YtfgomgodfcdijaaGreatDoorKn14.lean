/-
  Texts of this claim, joined. No condition.
-/
import Derived.RangeFuncNested
import Derived.RangeFuncBound
import Derived.RangeFuncCalls
import Derived.RangeFuncLeaves
import Derived.RangeFuncWrites
import Derived.Shelf.Abstract
import Derived.Shelf.RegionOpen
import Derived.WalkKit
import Derived.OwnWalkIn
import Derived.TacticsInMore
import Derived.LoopNIn
import Derived.LoopIn
import Derived.Test.YtfgomgodfcdijaaGreatDoorKn13
import Derived.Test.YtfgomgodfcdijaaGreatDoorKn12
/-
  Contracts: tree.of, tree.none, and the iterator of tree.up, of any tree whose groups' parents stand ahead of them.
-/
namespace Go.Proofs.YtfgomgodfcdijaaGreatDoor.Tr
open Go.RowKit Go.Shelf
section
attribute [local go_sem ↓] Go.wp_at_zero Go.wp_at_succ
variable {w : World} {T G N c : Nat}
theorem none_spec (hT : w.cell? ⟨T, 0, none⟩ = some (.slice (some ⟨G, 0, none⟩) N c)) (hN : 1 ≤ N) : Calls Tryz.prog 96 #[.pointer (some ⟨T, 0, none⟩)] w fun e w' => e = .returned (.bool false) ∧ Own w [] w' := by
  have h := Own.self w
  have h0 : ((N : Int) == 0) = false := by rw [beq_eq_false_iff_ne]; omega
  go_enter Tryz.func96, Tryz.ntmps96
  go_wp2_with fail
  go_ret
  exact ⟨rfl, h⟩
theorem of_in (hTl : T < w.heap.size) (hT : w.cell? ⟨T, 0, none⟩ = some (.slice (some ⟨G, 0, none⟩) N c)) (_hc : N ≤ c) (hN : N ≤ 1000) {g : Nat} (h1 : 1 ≤ g) (h2 : g ≤ N) : Calls Tryz.prog 157 #[.pointer (some ⟨T, 0, none⟩), .int .i64 g] w fun e w' => e = .returned (.pointer (some ⟨G, (g - 1) * 3, none⟩)) ∧ Own w [] w' := by
  have d1 : decide ((g : Int) < 1) = false := decide_eq_false (by omega)
  have d2 : decide ((N : Int) < g) = false := decide_eq_false (by omega)
  have e1 : IntKind.i64.wrap ((g : Int) - 1) = ((g - 1 : Nat) : Int) := by rw [IntWalk.i64_in] <;> omega
  have e2 : g - 1 < N := by omega
  go_enter Tryz.func157, Tryz.ntmps157
  go_wp2_with (go_at_call 96; refine (none_spec hT (by omega)).mono ?_; rintro e w' ⟨rfl, h1⟩; have hT2 := (h1.old (a := ⟨T, 0, none⟩) hTl).trans hT)
  all_goals go_ret
  all_goals exact ⟨by simp, h1⟩
theorem of_out (hTl : T < w.heap.size) (hT : w.cell? ⟨T, 0, none⟩ = some (.slice (some ⟨G, 0, none⟩) N c)) (_hc : N ≤ c) (hN1 : 1 ≤ N) (_hN : N ≤ 1000) {g : Int} (hg : g < 1 ∨ N < g) : Calls Tryz.prog 157 #[.pointer (some ⟨T, 0, none⟩), .int .i64 g] w fun e w' => e = .returned (.pointer none) ∧ Own w [] w' := by
  rcases (show g < 1 ∨ 1 ≤ g by omega) with h | h
  · go_enter Tryz.func157, Tryz.ntmps157
    go_wp2_with (go_at_call 96; refine (none_spec hT hN1).mono ?_; rintro e w' ⟨rfl, h1⟩; have hT2 := (h1.old (a := ⟨T, 0, none⟩) hTl).trans hT)
    go_ret
    exact ⟨rfl, h1⟩
  · have d1 : ¬ g < 1 := by omega
    have d2 : (N : Int) < g := by omega
    go_enter Tryz.func157, Tryz.ntmps157
    go_wp2_with (go_at_call 96; refine (none_spec hT hN1).mono ?_; rintro e w' ⟨rfl, h1⟩; have hT2 := (h1.old (a := ⟨T, 0, none⟩) hTl).trans hT)
    go_ret
    exact ⟨rfl, h1⟩
end
/-! a group, its parent, and so on -/
def upP (gs : List Int) : Nat → Int → List Int
  | 0, _ => []
  | n + 1, g => if 1 ≤ g ∧ g ≤ gs.length then g :: upP gs n (gs.getD (g - 1).toNat 0) else []
/-- parents stand ahead -/
def Ahead (gs : List Int) : Prop := ∀ (i : Nat) p, gs[i]? = some p → 0 ≤ p ∧ p ≤ (i : Int)
def upL (gs : List Int) (g : Int) : List Int := upP gs (g.toNat + 1) g
theorem par_lt {gs : List Int} (hw : Ahead gs) {g : Int} (h1 : 1 ≤ g) (h2 : g ≤ gs.length) : 0 ≤ gs.getD (g - 1).toNat 0 ∧ gs.getD (g - 1).toNat 0 < g := by
  have hl : (g - 1).toNat < gs.length := by omega
  have := hw (g - 1).toNat (gs.getD (g - 1).toNat 0) (by rw [List.getD_eq_getElem?_getD, List.getElem?_eq_getElem hl]; rfl)
  omega
theorem upP_more {gs : List Int} (hw : Ahead gs) : ∀ (n m : Nat) (g : Int), g.toNat < n → g.toNat < m → upP gs n g = upP gs m g
  | 0, _, g, h, _ => by omega
  | _ + 1, 0, g, _, h => by omega
  | n + 1, m + 1, g, h1, h2 => by
    unfold upP
    by_cases hg : 1 ≤ g ∧ g ≤ gs.length
    · rw [if_pos hg, if_pos hg]
      have := par_lt hw hg.1 hg.2
      rw [upP_more hw n m _ (by omega) (by omega)]
    · rw [if_neg hg, if_neg hg]
theorem upL_in {gs : List Int} (hw : Ahead gs) {g : Int} (h1 : 1 ≤ g) (h2 : g ≤ gs.length) : upL gs g = g :: upL gs (gs.getD (g - 1).toNat 0) := by
  have := par_lt hw h1 h2
  show upP gs (g.toNat + 1) g = _
  unfold upL
  rw [upP, if_pos ⟨h1, h2⟩, upP_more hw _ ((gs.getD (g - 1).toNat 0).toNat + 1) _ (by omega) (by omega)]
theorem upL_out {gs : List Int} {g : Int} (h : ¬ (1 ≤ g ∧ g ≤ gs.length)) : upL gs g = [] := by
  show upP gs (g.toNat + 1) g = _
  rw [upP, if_neg h]
/-- what is known between two rounds: the iterator's place, what has come -/
structure ItSt (Bg Bt T G c : Nat) (gs : List Int) (St : Int → List Int → World → Prop) : Prop where
  own : ∀ {g ss w w'}, St g ss w → Own w [] w' → St g ss w'
  set : ∀ {g g' ss w}, St g ss w → St g' ss (w.setCell ⟨Bg, 0, none⟩ (.int .i64 g'))
  at_ : ∀ {g ss w}, St g ss w → w.cell? ⟨Bg, 0, none⟩ = some (.int .i64 g) ∧ w.frozen? ⟨Bg, 0, none⟩ = false ∧ w.cell? ⟨Bt, 0, none⟩ = some (.pointer (some ⟨T, 0, none⟩)) ∧ w.cell? ⟨T, 0, none⟩ = some (.slice (some ⟨G, 0, none⟩) gs.length c) ∧ T < w.heap.size ∧ ∀ (i : Nat) p, gs[i]? = some p → w.cell? ⟨G, i * 3, none⟩ = some (.int .i64 p)
section
attribute [local go_sem] Oper.semAt_some
def placeOf (Bg : Nat) (w : World) : Nat := match w.cell? ⟨Bg, 0, none⟩ with
  | some (.int _ g) => g.toNat
  | _ => 0
/-- the group's place, or nil -/
def ptrOf (G N : Nat) (g : Int) : Value := if 1 ≤ g ∧ g ≤ N then .pointer (some ⟨G, (g.toNat - 1) * 3, none⟩) else .pointer none
theorem of_any {w : World} {T G N c : Nat} (hTl : T < w.heap.size) (hT : w.cell? ⟨T, 0, none⟩ = some (.slice (some ⟨G, 0, none⟩) N c)) (hc : N ≤ c) (hN1 : 1 ≤ N) (hN : N ≤ 1000) (g : Int) : Calls Tryz.prog 157 #[.pointer (some ⟨T, 0, none⟩), .int .i64 g] w fun e w' => e = .returned (ptrOf G N g) ∧ Own w [] w' := by
  unfold ptrOf
  by_cases h : 1 ≤ g ∧ g ≤ N
  · rw [if_pos h]
    have := of_in (w := w) (g := g.toNat) hTl hT hc hN (by omega) (by omega)
    rwa [show ((g.toNat : Nat) : Int) = g by omega] at this
  · rw [if_neg h]
    exact of_out hTl hT hc hN1 hN (by omega)
set_option maxRecDepth 100000 in
set_option maxHeartbeats 2000000 in
theorem up1_in (n : Nat) (hn : 2 ≤ n) (l Bg Bt T G c : Nat) (gs : List Int) (hc : gs.length ≤ c) (h1 : 1 ≤ gs.length) (hN : gs.length ≤ 1000) (hw : Ahead gs)
    (St : Int → List Int → World → Prop) (Sx : World → Prop) (hS : ItSt Bg Bt T G c gs St)
    (g0 : Int) (hY : ∀ g ss w1, St g ss w1 → 1 ≤ g → g ≤ gs.length → ss ++ upL gs g = upL gs g0 → YieldAt Fence.wide (n - 1) Tryz.prog l #[.int .i64 g] w1 fun e w' => (e = .returned (.bool true) ∧ St g (ss ++ [g]) w') ∨ (e = .returned (.bool false) ∧ Sx w'))
    (w : World) (h0 : St g0 [] w) :
    CallsIn Fence.wide n Tryz.prog 156 #[.func (.yield l) #[] #[], .pointer (some ⟨Bt, 0, none⟩), .pointer (some ⟨Bg, 0, none⟩)] w fun e w' => (∃ v, e = .returned v) ∧ ((∃ g, St g (upL gs g0) w') ∨ Sx w') := by
  refine callsIn_of_wp Tryz.func156 rfl trivial ?_ rfl
  simp only [Tryz.ntmps156, List.size_toArray, List.length_cons, List.length_nil, Nat.reduceAdd, Nat.reduceSub, Array.replicate_succ, Array.replicate_zero, List.push_toArray, List.append_toArray, List.nil_append, List.cons_append]
  have hf : Fence.wide.fn 157 := trivial
  have hn1 : 1 ≤ n := by omega
  obtain ⟨c0, f0, c1, c2, c3, c4⟩ := hS.at_ h0
  gi_wp2_with (gi_at_call 157; refine (callsIn_wide.2 (of_any c3 c2 hc h1 hN g0)).mono ?_; rintro e w1 ⟨rfl, k1⟩)
  gi_loopw [4] (fun p wr => ∃ g ss, St g ss wr ∧ ss ++ upL gs g = upL gs g0 ∧ p = ptrOf G gs.length g) (fun _ wr => placeOf Bg wr)
  case atStart => exact ⟨g0, [], hS.own h0 k1, rfl, rfl⟩
  case round =>
    obtain ⟨g, ss, hst, hss, rfl⟩ := hrel
    clear c0 f0 c1 c2 c3 c4 k1 h0
    obtain ⟨c0, f0, c1, c2, c3, c4⟩ := hS.at_ hst
    by_cases hg : 1 ≤ g ∧ g ≤ gs.length
    · have hp : ptrOf G gs.length g = .pointer (some ⟨G, (g.toNat - 1) * 3, none⟩) := if_pos hg
      rw [hp]
      obtain ⟨fn, tmps, assign, body, hy, hR⟩ := hY g ss wr hst hg.1 hg.2 hss
      have HG := Lib.hid hg
      have HSS := Lib.hid hss
      clear hg hss hp
      gi_wp2
      refine hR.mono ?_
      rintro e W3 (⟨rfl, h3⟩ | ⟨rfl, h3⟩)
      · obtain ⟨d0, e0, d1, d2, d3, d4⟩ := hS.at_ h3
        have hpl : gs[(g - 1).toNat]? = some (gs.getD (g - 1).toNat 0) := by
          have := HG.out
          rw [List.getD_eq_getElem?_getD, List.getElem?_eq_getElem (by omega)]
          rfl
        have q3 := d4 _ _ hpl
        rw [show (g - 1).toNat = g.toNat - 1 by omega] at q3
        obtain ⟨p, hp⟩ : ∃ p, gs.getD (g.toNat - 1) 0 = p := ⟨_, rfl⟩
        rw [hp] at q3
        have HP := Lib.hid hp
        have h4 := hS.set (g' := p) h3
        obtain ⟨g4, -, t4, T4, l4, -⟩ := hS.at_ h4
        clear d1 d2 d3 d4 hpl hp c0 f0 c1 c2 c3 c4
        gi_wp2_with (gi_at_call 157; refine (callsIn_wide.2 (of_any l4 T4 hc h1 hN p)).mono ?_; rintro e w5 ⟨rfl, h5⟩)
        go_roundw
        case rel => exact ⟨p, ss ++ [g], hS.own h4 h5, by rw [← HSS.out, upL_in hw HG.out.1 HG.out.2, show (g - 1).toNat = g.toNat - 1 by omega, HP.out]; simp, rfl⟩
        case measure =>
          obtain ⟨x0, -⟩ := hS.at_ (hS.own h4 h5)
          obtain ⟨y0, -⟩ := hS.at_ hst
          unfold placeOf
          rw [x0, y0]
          have := par_lt hw HG.out.1 HG.out.2
          rw [show (g - 1).toNat = g.toNat - 1 by omega, HP.out] at this
          have := HG.out
          show p.toNat < g.toNat
          omega
      · gi_wp2
        go_end0
        exact ⟨⟨_, rfl⟩, .inr h3⟩
    · have hp : ptrOf G gs.length g = .pointer none := if_neg hg
      rw [hp]
      rw [upL_out hg, List.append_nil] at hss
      gi_wp2
      refine ⟨fun _ h => (by cases h), ?_⟩
      gi_wp2
      go_end0
      exact ⟨⟨_, rfl⟩, .inl ⟨g, by rw [← hss]; exact hst⟩⟩
end
end Go.Proofs.YtfgomgodfcdijaaGreatDoor.Tr

/-
  Contract: tree.Path, of any tree whose groups' parents stand ahead of them: a new slice of a group, its parent, and so on.
-/
namespace Go.Proofs.YtfgomgodfcdijaaGreatDoor.Tr
open Go.RowKit Go.Shelf
open Jt (itB own_put ren lays11 up_spec)
theorem upL_len {gs : List Int} (hw : Ahead gs) : ∀ (n : Nat) (g : Int), g.toNat < n → (upP gs n g).length ≤ g.toNat
  | 0, g, h => by omega
  | n + 1, g, h => by
    unfold upP
    by_cases hg : 1 ≤ g ∧ g ≤ gs.length
    · rw [if_pos hg, List.length_cons]
      have h1 := par_lt hw hg.1 hg.2
      have := upL_len hw n (gs.getD (g - 1).toNat 0) (by omega)
      omega
    · rw [if_neg hg]
      simp
theorem upL_le {gs : List Int} (hw : Ahead gs) (g : Int) : (upL gs g).length ≤ gs.length := by
  by_cases hg : 1 ≤ g ∧ g ≤ gs.length
  · have := upL_len hw (g.toNat + 1) g (by omega)
    unfold upL
    omega
  · rw [upL_out hg]
    simp
section
variable {w0 W W' : World} {fn : FuncId} {sv : Value} {Bs l D : Nat} {ss : List Int}
theorem row_own {base e size k : Nat} {v : Value} {xs : List Value} (h : W.ownsRow base e size v k xs) (hk : ∀ b : Nat, ∀ o : Obj, W.heap[b]? = some o → base ≤ b → v.ownBlock = some b → W'.heap[b]? = some o) : W'.ownsRow base e size v k xs := by
  refine ⟨h.1, ?_⟩
  rcases h.2 with h2 | ⟨g, cap, cur, rfl, h3, h4, h5⟩
  · exact .inl h2
  · exact .inr ⟨g, cap, cur, rfl, h3, hk g _ h4 h3 rfl, h5⟩
theorem apAt_own (h : AnyZI.ApAt ren w0 fn sv Bs l D ss W) (hO : Own W [] W') (hs : w0.heap.size ≤ W.heap.size) : AnyZI.ApAt ren w0 fn sv Bs l D ss W' := by
  obtain ⟨v, hv, hr, hn⟩ := h.box
  have hb : ∀ b o, W.heap[b]? = some o → W'.heap[b]? = some o := fun b o ho => (hO.below.block b (heap_lt ho)).trans ho
  exact ⟨⟨v, hb _ _ hv, row_own hr (fun b o ho _ _ => hb b o ho), hn⟩, hb _ _ h.L, hb _ _ h.K, h.below.trans (hO.below.mono hs)⟩
theorem apAt_set (h : AnyZI.ApAt ren w0 fn sv Bs l D ss W) {Bg : Nat} (u : Value) (h0 : Bg < w0.heap.size) (h1 : w0.heap.size ≤ Bs) (h2 : w0.heap.size ≤ l) (h3 : w0.heap.size ≤ D) : AnyZI.ApAt ren (w0.setCell ⟨Bg, 0, none⟩ u) fn sv Bs l D ss (W.setCell ⟨Bg, 0, none⟩ u) := by
  obtain ⟨v, hv, hr, hn⟩ := h.box
  have hb : ∀ b, b ≠ Bg → (W.setCell ⟨Bg, 0, none⟩ u).heap[b]? = W.heap[b]? := fun b hb => Below.heap_setCell W _ u b hb
  have hsz : (w0.setCell ⟨Bg, 0, none⟩ u).heap.size = w0.heap.size := by show (w0.heap.modify _ _).size = _; rw [Array.size_modify]
  have hsW : (W.setCell ⟨Bg, 0, none⟩ u).heap.size = W.heap.size := by show (W.heap.modify _ _).size = _; rw [Array.size_modify]
  refine ⟨⟨v, (hb _ (by omega)).trans hv, ?_, hn⟩, (hb _ (by omega)).trans h.L, (hb _ (by omega)).trans h.K, ?_⟩
  · rw [hsz]
    exact row_own hr (fun b o ho hge _ => (hb b (by omega)).trans ho)
  · rw [hsz]
    refine ⟨h.below.os, h.below.tape, h.below.output, by rw [hsW, hsz]; exact h.below.size, fun b hlt => ?_⟩
    by_cases he : b = Bg
    · subst he
      show (W.heap.modify _ _)[b]? = (w0.heap.modify _ _)[b]?
      rw [Array.getElem?_modify, Array.getElem?_modify, h.below.block b hlt]
    · rw [hb b he, Below.heap_setCell w0 _ u b he]
      exact h.below.block b hlt
end
/-- what AppendSeq's rounds keep -/
def StA (W : World) (Bg Bt T G : Nat) (ct cg : Array Value) (m : List (Nat × Obj)) (N0 : Nat) (fn : FuncId) (sv : Value) (g : Int) (ss : List Int) (wr : World) : Prop :=
  ∃ w0 : World, w0.heap.size = N0 ∧ Own W (itB Bg Bt T G ct cg g ++ m) w0 ∧ AnyZI.ApAt ren w0 fn sv N0 (N0 + 2) (N0 + 1) ss wr
/-- the cells of a tree's groups: parents -/
def Pars (gs : List Int) (cg : Array Value) : Prop := ∀ (i : Nat) p, gs[i]? = some p → cg[i * 3]? = some (.int .i64 p)
theorem stA_it {W : World} {Bg Bt T G c : Nat} {ct cg : Array Value} {m : List (Nat × Obj)} {N0 : Nat} {fn : FuncId} {sv : Value} {gs : List Int} (hct : ct[0]? = some (.slice (some ⟨G, 0, none⟩) gs.length c)) (hcg : Pars gs cg) : ItSt Bg Bt T G c gs (StA W Bg Bt T G ct cg m N0 fn sv) where
  own := fun h hO => by
    obtain ⟨w0, h1, h2, h3⟩ := h
    exact ⟨w0, h1, h2, apAt_own h3 hO h3.below.size⟩
  set := fun {g g' ss w} h => by
    obtain ⟨w0, h1, h2, h3⟩ := h
    have hlt : Bg < w0.heap.size := h2.lt List.mem_cons_self
    refine ⟨w0.setCell ⟨Bg, 0, none⟩ (.int .i64 g'), ?_, h2.set 0 (.int .i64 g'), apAt_set h3 _ hlt (by omega) (by omega) (by omega)⟩
    rw [← h1]
    show (w0.heap.modify _ _).size = _
    rw [Array.size_modify]
  at_ := fun {g ss w} h => by
    obtain ⟨w0, h1, h2, h3⟩ := h
    have m0 : (Bg, Obj.cells #[.int .i64 g] 3) ∈ itB Bg Bt T G ct cg g ++ m := List.mem_cons_self
    have m1 : (Bt, Obj.cells #[.pointer (some ⟨T, 0, none⟩)] 59) ∈ itB Bg Bt T G ct cg g ++ m := List.mem_cons_of_mem _ List.mem_cons_self
    have m2 : (T, Obj.cells ct 152) ∈ itB Bg Bt T G ct cg g ++ m := List.mem_cons_of_mem _ (List.mem_cons_of_mem _ List.mem_cons_self)
    have m3 : (G, Obj.cells cg 149) ∈ itB Bg Bt T G ct cg g ++ m := List.mem_cons_of_mem _ (List.mem_cons_of_mem _ (List.mem_cons_of_mem _ List.mem_cons_self))
    have hb := h3.below
    refine ⟨(hb.cell (p := ⟨Bg, 0, none⟩) (h2.lt m0)).trans (h2.cell m0 0), (hb.frozen (p := ⟨Bg, 0, none⟩) (h2.lt m0)).trans (h2.frozen m0 0), (hb.cell (p := ⟨Bt, 0, none⟩) (h2.lt m1)).trans (h2.cell m1 0), (hb.cell (p := ⟨T, 0, none⟩) (h2.lt m2)).trans ((h2.cell m2 0).trans hct), Nat.lt_of_lt_of_le (h2.lt m2) hb.size, fun i p hp => (hb.cell (p := ⟨G, i * 3, none⟩) (h2.lt m3)).trans ((h2.cell m3 (i * 3)).trans (hcg i p hp))⟩
section
attribute [local go_sem] Oper.semAt_some
variable {W w : World} {m : List (Nat × Obj)} {Bg Bt T G c : Nat} {ct cg : Array Value} {gs : List Int} {g : Int}
/-- a path in a block of its own -/
def PathR (W : World) (L : List Int) (m : List (Nat × Obj)) (e : Ending) (w' : World) : Prop := ∃ b cap cur, e = .returned (.slice (some ⟨b, 0, none⟩) L.length cap) ∧ cur.toList.take L.length = L.map encZ ∧ cur.size = cap ∧ L.length ≤ cap ∧ cap ≤ maxLen ∧ Own W ((b, .cells cur 3) :: m) w'
set_option maxRecDepth 100000 in
set_option maxHeartbeats 2000000 in
theorem appendSeq_path (hc : gs.length ≤ c) (h1 : 1 ≤ gs.length) (hN : gs.length ≤ 1000) (hw : Ahead gs) (hg1 : 1 ≤ g) (hg2 : g ≤ gs.length) (hct : ct[0]? = some (.slice (some ⟨G, 0, none⟩) gs.length c)) (hcg : Pars gs cg) (h : Own W (itB Bg Bt T G ct cg g ++ m) w) :
    CallsIn Fence.wide 8 Tryz.prog 102 #[.slice none 0 0, .func (.func 156) #[] #[.pointer (some ⟨Bt, 0, none⟩), .pointer (some ⟨Bg, 0, none⟩)]] w fun e w' => ∃ g', PathR W (upL gs g) (itB Bg Bt T G ct cg g' ++ m) e w' := by
  refine callsIn_of_wp_marks Tryz.func102 rfl trivial ?_ rfl
  simp only [Tryz.ntmps102, List.size_toArray, List.length_cons, List.length_nil, Nat.reduceAdd, Nat.reduceSub, Array.replicate_succ, Array.replicate_zero, List.push_toArray, List.append_toArray, List.nil_append, List.cons_append]
  gi_wp2
  refine wpIn_rangeFunc ?_
  intro fn hfn
  obtain ⟨sv, hsv⟩ : ∃ sv, Value.func (.func 156) #[] #[.pointer (some ⟨Bt, 0, none⟩), .pointer (some ⟨Bg, 0, none⟩)] = sv := ⟨_, rfl⟩
  obtain ⟨W0, hW0⟩ : ∃ W0, w.alloc (.cells #[.slice none 0 0] 27) = W0 := ⟨_, rfl⟩
  have hs0 : W0.heap.size = w.heap.size + 1 := by rw [← hW0]; simp
  have hv0 : W0.heap[w.heap.size]? = some (.cells #[.slice none 0 0] 27 (0, 0)) := by rw [← hW0]; exact World.alloc_heap_new w _
  have hb0 : Below w.heap.size w W0 := by rw [← hW0]; exact (Below.refl _ w).alloc (Nat.le_refl _) _
  rw [hW0]
  obtain ⟨W1, hW1⟩ : ∃ W1, (W0.alloc (.deferred (some []))).alloc (.loop (AnyZI.apRec ren fn sv w.heap.size W0.heap.size .ready none)) = W1 := ⟨_, rfl⟩
  have hold : ∀ k, k < W0.heap.size → W1.heap[k]? = W0.heap[k]? := fun k hk => by
    rw [← hW1]; exact (Below.heap_alloc _ _ k (by simp; omega)).trans (Below.heap_alloc _ _ k hk)
  have hb1 : Below w.heap.size w W1 := by rw [← hW1]; exact (hb0.alloc hb0.size _).alloc (by have := hb0.size; simp; omega) _
  have hM : AnyZI.ApAt ren w fn sv w.heap.size (W0.heap.size + 1) W0.heap.size [] W1 :=
    ⟨⟨_, (hold w.heap.size (by omega)).trans hv0, ⟨rfl, .inl ⟨rfl, rfl⟩⟩, by simp⟩,
     by rw [← hW1]; have := World.alloc_heap_new (W0.alloc (.deferred (some []))) (.loop (AnyZI.apRec ren fn sv w.heap.size W0.heap.size .ready none)); rwa [World.size_alloc] at this,
     by rw [← hW1]; exact (Below.heap_alloc _ _ _ (by simp)).trans (World.alloc_heap_new W0 _), hb1⟩
  rw [hs0] at hM
  have hSt : StA W Bg Bt T G ct cg m w.heap.size fn sv g [] W1 := ⟨w, rfl, h, hM⟩
  refine ⟨W0.heap.size + 1, [{ target := .collected W0.heap.size, args := #[] }], W1, { target := .fn (.func 156) #[.pointer (some ⟨Bt, 0, none⟩), .pointer (some ⟨Bg, 0, none⟩)], args := #[.func (.yield (W0.heap.size + 1)) #[] #[]] }, W1, 156,
    #[.func (.yield (W0.heap.size + 1)) #[] #[], .pointer (some ⟨Bt, 0, none⟩), .pointer (some ⟨Bg, 0, none⟩)], W1, ?_, ?_, ?_, ?_, fun _ => by omega, ?_⟩
  · rw [← hW1, ← hsv]; exact run_enterLoop_outer _ _ _ _ _
  · simp [resolve, go_sem]
  · intro f' hf'; trivial
  · simp [invoke, go_sem]
  · rw [hs0]
    refine (up1_in 7 (by omega) (w.heap.size + 1 + 1) Bg Bt T G c gs hc h1 hN hw (StA W Bg Bt T G ct cg m w.heap.size fn sv) (fun _ => False) (stA_it hct hcg) g (fun x ss w1 h1 hx1 hx2 hss => ?_) W1 hSt).mono ?_
    · obtain ⟨w0, k1, k2, k3⟩ := h1
      have hle : ss.length < 2000 := by
        have := upL_le hw g
        have h3 := congrArg List.length hss
        rw [List.length_append] at h3
        omega
      obtain ⟨f1, t1, a1, b1, y1, y2⟩ := AnyZI.apYield lays11 Fence.wide (7 - 1) w0 fn hfn sv w.heap.size (w.heap.size + 2) (w.heap.size + 1) (by omega) (by omega) (by omega) (by omega) (by omega) 2000 (by unfold maxLen; omega) (by omega) ss x w1 k3 hle
      refine ⟨f1, t1, a1, b1, y1, y2.mono ?_⟩
      rintro e w2 ⟨rfl, hA, -⟩
      exact .inl ⟨rfl, w0, k1, k2, hA⟩
    · rintro e W2 ⟨⟨v0, rfl⟩, ⟨g', w0, k1, k2, k3⟩ | hf⟩
      · obtain ⟨v, hv, hrow, hnil⟩ := k3.box
        have hne : upL gs g ≠ [] := by rw [upL_in hw hg1 hg2]; simp
        rcases hrow.2 with ⟨rfl, _⟩ | ⟨b, cap, cur, rfl, hge, hb, q1, q2, q3, q4⟩
        · exact absurd (hnil.1 rfl) hne
        have n1 : b ≠ w.heap.size + 2 := fun e => by subst e; rw [k3.L] at hb; cases hb
        have n2 : b ≠ w.heap.size + 1 := fun e => by subst e; rw [k3.K] at hb; cases hb
        have n3 : b ≠ w.heap.size := fun e => by
          subst e
          rw [hv] at hb
          have := (Obj.cells.inj (Option.some.inj hb)).2.1
          exact absurd this (by decide)
        have hO : Own w0 [(b, .cells cur 3), (w.heap.size + 2, .loop (AnyZI.apRec ren fn sv w.heap.size (w.heap.size + 1) .ready none)), (w.heap.size + 1, .deferred (some [])), (w.heap.size, .cells #[.slice (some ⟨b, 0, none⟩) (upL gs g).length cap] 27)] W2 := by
          refine ⟨k3.below, fun p hp => ?_, by simp [n1, n2, n3]⟩
          simp only [List.mem_cons, List.not_mem_nil, or_false] at hp
          rcases hp with rfl | rfl | rfl | rfl
          · exact ⟨hge, hb⟩
          · exact ⟨by omega, k3.L⟩
          · exact ⟨by omega, k3.K⟩
          · exact ⟨by omega, hv⟩
        have h2 := (k2.join hO).perm (perm_swap _ _ _)
        have h3 : Own W ((w.heap.size + 2, .loop (AnyZI.apRec ren fn sv w.heap.size (w.heap.size + 1) .ready none)) :: ((itB Bg Bt T G ct cg g' ++ [(b, .cells cur 3)]) ++ (w.heap.size + 1, .deferred (some [])) :: (w.heap.size, .cells #[.slice (some ⟨b, 0, none⟩) (upL gs g).length cap] 27) :: m)) W2 := Own.perm (m := (itB Bg Bt T G ct cg g' ++ [(b, .cells cur 3)]) ++ (w.heap.size + 2, .loop (AnyZI.apRec ren fn sv w.heap.size (w.heap.size + 1) .ready none)) :: (w.heap.size + 1, .deferred (some [])) :: (w.heap.size, .cells #[.slice (some ⟨b, 0, none⟩) (upL gs g).length cap] 27) :: m) h2 List.perm_middle
        have hend := run_endLoop (P := Tryz.prog) (h3.get List.mem_cons_self) (by simp [AnyZI.apRec])
        have h4 := (own_put (o' := .loop { AnyZI.apRec ren fn sv w.heap.size (w.heap.size + 1) .ready none with state := .exhausted }) h3).skip
        obtain ⟨W3, hW3⟩ : ∃ W3, W2.putObj (w.heap.size + 2) (.loop { AnyZI.apRec ren fn sv w.heap.size (w.heap.size + 1) .ready none with state := .exhausted }) = W3 := ⟨_, rfl⟩
        rw [hW3] at hend h4
        clear hW3
        have h5 := h4.perm List.perm_middle
        have hK3 := h5.get List.mem_cons_self
        have hc3 := h5.cell (List.mem_cons_of_mem _ (List.mem_append_right _ List.mem_cons_self)) 0
        have h6 := (own_put (o' := .deferred none) h5).skip
        have h7 : Own W ((b, .cells cur 3) :: (itB Bg Bt T G ct cg g' ++ (w.heap.size, .cells #[.slice (some ⟨b, 0, none⟩) (upL gs g).length cap] 27) :: m)) (W3.putObj (w.heap.size + 1) (.deferred none)) := Own.perm (m := itB Bg Bt T G ct cg g' ++ (b, .cells cur 3) :: (w.heap.size, .cells #[.slice (some ⟨b, 0, none⟩) (upL gs g).length cap] 27) :: m) h6 List.perm_middle
        have h8 : Own W ((b, .cells cur 3) :: (itB Bg Bt T G ct cg g' ++ m)) (W3.putObj (w.heap.size + 1) (.deferred none)) := Own.drop1 (m1 := (b, .cells cur 3) :: itB Bg Bt T G ct cg g') h7
        simp at hc3
        rw [← hsv] at hend
        refine ⟨none, W3, hend, ?_⟩
        gi_wp2
        refine ⟨by simp, .inl ⟨_, _, rfl, run_takeDeferred hK3, ?_⟩⟩
        exact ⟨_, results_tmp rfl _ _ _, g', b, cap, cur, rfl, by simpa using q4, by simpa using q3, q1, q2, h8⟩
      · exact hf.elim
set_option maxHeartbeats 1000000 in
theorem collect_path (hc : gs.length ≤ c) (h1 : 1 ≤ gs.length) (hN : gs.length ≤ 1000) (hw : Ahead gs) (hg1 : 1 ≤ g) (hg2 : g ≤ gs.length) (hct : ct[0]? = some (.slice (some ⟨G, 0, none⟩) gs.length c)) (hcg : Pars gs cg) (h : Own W (itB Bg Bt T G ct cg g ++ m) w) :
    CallsIn Fence.wide 9 Tryz.prog 60 #[.func (.func 156) #[] #[.pointer (some ⟨Bt, 0, none⟩), .pointer (some ⟨Bg, 0, none⟩)]] w fun e w' => ∃ g', PathR W (upL gs g) (itB Bg Bt T G ct cg g' ++ m) e w' := by
  refine callsIn_of_wp Tryz.func60 rfl trivial ?_ rfl
  simp only [Tryz.ntmps60, List.size_toArray, List.length_cons, List.length_nil, Nat.reduceAdd, Nat.reduceSub, Array.replicate_succ, Array.replicate_zero, List.push_toArray, List.append_toArray, List.nil_append, List.cons_append]
  have hf : Fence.wide.fn 102 := trivial
  gi_wp2_with (gi_at_call 102; refine (appendSeq_path hc h1 hN hw hg1 hg2 hct hcg h).mono ?_; rintro e w' ⟨g', b, cap, cur, rfl, k1, k2, k3, k4, h1⟩)
  go_ret
  exact ⟨g', b, cap, cur, rfl, k1, k2, k3, k4, h1⟩
end
section
attribute [local go_sem ↓] Go.wp_at_zero Go.wp_at_succ
/-- PATH -/
theorem path_in {W w : World} {m : List (Nat × Obj)} {T G c : Nat} {ct cg : Array Value} {gs : List Int} {g : Int} (hc : gs.length ≤ c) (h1 : 1 ≤ gs.length) (hN : gs.length ≤ 1000) (hw : Ahead gs) (hg1 : 1 ≤ g) (hg2 : g ≤ gs.length) (hct : ct[0]? = some (.slice (some ⟨G, 0, none⟩) gs.length c)) (hcg : Pars gs cg)
    (h : Own W ((T, .cells ct 152) :: (G, .cells cg 149) :: m) w) :
    Calls Tryz.prog 44 #[.pointer (some ⟨T, 0, none⟩), .int .i64 g] w fun e w' => PathR W (upL gs g) ((T, .cells ct 152) :: (G, .cells cg 149) :: m) e w' := by
  go_enter Tryz.func44, Tryz.ntmps44
  go_wp2_with (first | (go_at_call 92; refine (up_spec h g).mono ?_; rintro e w1 ⟨b1, b2, rfl, h2⟩) | (go_at_call 60; refine (callsIn_wide.1 (collect_path hc h1 hN hw hg1 hg2 hct hcg h2)).mono ?_; rintro e w2 ⟨g', b, cap, cur, rfl, k1, k2, k3, k4, h3⟩))
  go_ret
  exact ⟨b, cap, cur, rfl, k1, k2, k3, k4, Own.drop1 (m1 := [(b, .cells cur 3)]) (Own.drop1 (m1 := [(b, .cells cur 3)]) h3)⟩
end
end Go.Proofs.YtfgomgodfcdijaaGreatDoor.Tr

/-
  What a memory tells of tree.Path: of any tree whose groups' parents stand ahead of them. No condition.
-/
namespace Go.Proofs.YtfgomgodfcdijaaGreatDoor.Ex
open Go Tr
noncomputable section
/-- groups, out of cells: parents -/
def parsAt (cs : T AV) : Nat → Nat → Option (List Int)
  | _, 0 => some []
  | i, n + 1 => match cs.get i with
    | some (.int .i64 a) => match parsAt cs (Nat.add i 3) n with
      | some l => some (a :: l)
      | none => none
    | _ => none
def aheadB : Nat → List Int → Bool
  | _, [] => true
  | i, p :: l => decide (0 ≤ p) && (decide (p ≤ Int.ofNat i) && aheadB (Nat.add i 1) l)
/-- a tree's groups: where they lie, and their parents -/
def treeAt (h : AH) (t : Nat) : Option (Nat × T AV × List Int) := match h.get t with
  | some (.cells cs _ e) => match Nat.beq e 152 with
    | true => match cs.get 0 with
      | some (.sl g 0 n 3 _) => match h.get g with
        | some (.cells cg _ e2) => match Nat.beq e2 149 with
          | true => match parsAt cg 0 n with
            | some gs => match (Nat.ble 1 n && Nat.ble n 1000) && aheadB 0 gs with
              | true => some (g, cg, gs)
              | false => none
            | none => none
          | false => none
        | _ => none
      | _ => none
    | false => none
  | _ => none
def inB (g : Nat) (gs : List Int) : Bool := Nat.ble 1 g && Nat.ble g gs.length
def spPath : Sp := fun f args h => match Nat.beq f 44 with
  | false => none
  | true => match args with
    | [.ptr t 0, .int .i64 (.ofNat g)] => match treeAt h t with
      | some (_, _, gs) => match inB g gs with
        | true => match fresh h (cellsOf 3 ((upL gs (Int.ofNat g)).map (AV.int .i64))) with
          | some h' => some (.sl h.next 0 (upL gs (Int.ofNat g)).length 1 .any, h')
          | none => none
        | false => none
      | none => none
    | _ => none
theorem fn_path : FnOk Tryz.prog 44 := ⟨Tryz.f44, _, Tryz.func44, by kernel_rfl, rfl⟩
theorem parsAt_get {cs : T AV} : ∀ {n i : Nat} {L : List Int}, parsAt cs i n = some L → L.length = n ∧ ∀ j p, L[j]? = some p → cs.get (i + j * 3) = some (.int .i64 p)
  | 0, i, L, h => by
    simp only [parsAt, Option.some.injEq] at h
    subst h
    exact ⟨rfl, fun j p hp => by simp at hp⟩
  | n + 1, i, L, h => by
    unfold parsAt at h
    split at h <;> first | (cases h; done) | skip
    rename_i a ha
    split at h <;> first | (cases h; done) | skip
    rename_i l hl
    simp only [Option.some.injEq] at h
    subst h
    obtain ⟨h1, h2⟩ := parsAt_get hl
    refine ⟨by simp [h1], fun j p hp => ?_⟩
    cases j with
    | zero =>
      simp only [List.getElem?_cons_zero, Option.some.injEq] at hp
      subst hp
      simpa using ha
    | succ j =>
      have q1 := h2 j p (by simpa using hp)
      have e : Nat.add i 3 + j * 3 = i + (j + 1) * 3 := by show i + 3 + j * 3 = _; omega
      rw [e] at q1
      exact q1
theorem aheadB_ok : ∀ {l : List Int} {i : Nat}, aheadB i l = true → ∀ (j : Nat) p, l[j]? = some p → 0 ≤ p ∧ p ≤ ((i + j : Nat) : Int)
  | [], i, h, j, p, hp => by simp at hp
  | q :: l, i, h, j, p, hp => by
    unfold aheadB at h
    simp only [Bool.and_eq_true, decide_eq_true_eq] at h
    obtain ⟨h1, h2, h3⟩ := h
    cases j with
    | zero =>
      simp only [List.getElem?_cons_zero, Option.some.injEq] at hp
      subst hp
      exact ⟨h1, by simpa using h2⟩
    | succ j =>
      have := aheadB_ok h3 j p (by simpa using hp)
      have e : Nat.add i 1 + j = i + (j + 1) := by show i + 1 + j = _; omega
      rwa [e] at this
theorem mkCells_get {l : List AV} {i : Nat} {v : AV} (h : (mkCells l).get i = some v) : l[i]? = some v := by
  unfold mkCells at h
  rcases setN_get h with ⟨_, _, h2⟩ | ⟨_, h2⟩
  · simpa using h2
  · rw [T.get_e] at h2; cases h2
/-- all blocks of a world, some of them ahead -/
theorem own_all (w : World) (l : List (Nat × Obj)) (hl : ∀ q ∈ l, w.heap[q.1]? = some q.2) (hnd : (l.map (·.1)).Nodup) : ∃ m, Own { w with heap := #[] } (l ++ m) w ∧ ∀ b o, w.heap[b]? = some o → (b, o) ∈ l ++ m := by
  refine ⟨((List.range w.heap.size).filter fun b => !(l.map (·.1)).contains b).filterMap fun b => (w.heap[b]?).map fun o => (b, o), ⟨⟨rfl, rfl, rfl, by simp, fun b hb => by simp at hb⟩, fun p hp => ⟨by simp, ?_⟩, ?_⟩, fun b o hb => ?_⟩
  · rcases List.mem_append.1 hp with hp | hp
    · exact hl p hp
    · obtain ⟨b, _, hb⟩ := List.mem_filterMap.1 hp
      obtain ⟨o, ho, rfl⟩ := Option.map_eq_some_iff.1 hb
      exact ho
  · rw [List.map_append, List.nodup_append]
    have hsub : ∀ (k : List Nat), (k.filterMap fun b => (w.heap[b]?).map fun o => (b, o)).map (·.1) = k.filter fun b => (w.heap[b]?).isSome := by
      intro k
      induction k with
      | nil => rfl
      | cons b k ih =>
        rw [List.filterMap_cons, List.filter_cons]
        cases hb : w.heap[b]? with
        | none => simpa [hb] using ih
        | some o => simpa [hb] using ih
    refine ⟨hnd, ?_, fun a ha b hb => ?_⟩
    · rw [hsub]
      exact (List.nodup_range.filter _).filter _
    · rw [hsub, List.mem_filter, List.mem_filter] at hb
      rintro rfl
      have := hb.1.2
      simp only [Bool.not_eq_true', List.contains_eq_mem, decide_eq_false_iff_not] at this
      exact this ha
  · by_cases hin : b ∈ l.map (·.1)
    · obtain ⟨q, hq, rfl⟩ := List.mem_map.1 hin
      have := hl q hq
      rw [hb] at this
      cases this
      exact List.mem_append_left _ hq
    · refine List.mem_append_right _ (List.mem_filterMap.2 ⟨b, List.mem_filter.2 ⟨List.mem_range.2 (heap_lt hb), by simpa using hin⟩, by simp [hb]⟩)
/-- back -/
theorem own_all_back {w w' : World} {l n : List (Nat × Obj)} (hall : ∀ b o, w.heap[b]? = some o → (b, o) ∈ l) (h : Own { w with heap := #[] } (n ++ l) w') : RowKit.Below w.heap.size w w' ∧ ∀ q ∈ n, w.heap.size ≤ q.1 := by
  have hk : ∀ b, b < w.heap.size → w'.heap[b]? = w.heap[b]? := fun b hb => by
    have ho : w.heap[b]? = some w.heap[b] := Array.getElem?_eq_getElem hb
    rw [ho]
    exact h.get (List.mem_append_right _ (hall b _ ho))
  refine ⟨⟨h.below.os, h.below.tape, h.below.output, ?_, hk⟩, fun q hq => ?_⟩
  · rcases Nat.lt_or_ge w'.heap.size w.heap.size with hlt | hge
    · have := hk w'.heap.size hlt
      rw [Array.getElem?_eq_none (Nat.le_refl _), Array.getElem?_eq_getElem hlt] at this
      cases this
    · exact hge
  · rcases Nat.lt_or_ge q.1 w.heap.size with hlt | hge
    · have ho : w.heap[q.1]? = some w.heap[q.1] := Array.getElem?_eq_getElem hlt
      have hm := hall _ _ ho
      have hnd := h.nd
      rw [List.map_append, List.nodup_append] at hnd
      exact absurd rfl (hnd.2.2 q.1 (List.mem_map.2 ⟨q, hq, rfl⟩) q.1 (List.mem_map.2 ⟨_, hm, rfl⟩))
    · exact hge
section
variable [Nums]
/-- what is known of a tree -/
theorem treeAt_ok {h : AH} {t g : Nat} {cg : T AV} {gs : List Int} (ht : treeAt h t = some (g, cg, gs)) {ρ : Ren} {w : World} (hH : HR ρ h.get h.next w) {b s : Nat} (hb : ρ t = some (b, s)) :
    ∃ G c ct ca, w.heap[b]? = some (.cells ct 152) ∧ w.heap[G]? = some (.cells ca 149) ∧ b ≠ G ∧ ct[0]? = some (.slice (some ⟨G, 0, none⟩) gs.length c) ∧ gs.length ≤ c ∧ 1 ≤ gs.length ∧ gs.length ≤ 1000 ∧ Ahead gs ∧ Pars gs ca ∧
      ∀ i v, cg.get i = some v → ∃ y, ca[i]? = some y ∧ VR ρ v y := by
  unfold treeAt at ht
  split at ht <;> first | (cases ht; done) | skip
  rename_i cs k e hg
  split at ht <;> first | (cases ht; done) | skip
  rename_i he
  split at ht <;> first | (cases ht; done) | skip
  rename_i g' n r h0
  split at ht <;> first | (cases ht; done) | skip
  rename_i cg' k2 e2 hg2
  split at ht <;> first | (cases ht; done) | skip
  rename_i he2
  split at ht <;> first | (cases ht; done) | skip
  rename_i gs' hgs
  split at ht <;> first | (cases ht; done) | skip
  rename_i hok
  simp only [Option.some.injEq, Prod.mk.injEq] at ht
  obtain ⟨rfl, rfl, rfl⟩ := ht
  have he := Nat.eq_of_beq_eq_true he
  have he2 := Nat.eq_of_beq_eq_true he2
  subst he he2
  simp only [Bool.and_eq_true] at hok
  have h1 := Nat.le_of_ble_eq_true hok.1.1
  have h2 := Nat.le_of_ble_eq_true hok.1.2
  obtain ⟨hlen, hat⟩ := parsAt_get hgs
  obtain ⟨b1, s1, hb1, hO1⟩ := hH.obj _ _ hg
  rw [hb] at hb1
  cases hb1
  obtain ⟨ct, hct, -, -, hc1⟩ := hO1
  obtain ⟨-, y, hy, hvy⟩ := hc1 0 _ h0
  unfold VR at hvy
  obtain ⟨G, sG, c, hG, rfl, hlc, -, -⟩ := hvy
  obtain ⟨b2, s2, hb2, hO2⟩ := hH.obj _ _ hg2
  rw [hG] at hb2
  cases hb2
  obtain ⟨ca, hca, -, -, hc2⟩ := hO2
  refine ⟨G, c, ct, ca, hct, hca, fun hbG => ?_, by rw [hlen]; exact hy, by omega, by omega, by omega, fun i p hp => ?_, fun i p hp => ?_, fun i v hv => (hc2 i v hv).2⟩
  · subst hbG
    rw [hct] at hca
    exact absurd (Obj.cells.inj (Option.some.inj hca)).2.1 (by decide)
  · have := aheadB_ok hok.2 i p hp
    simpa using this
  · have h3 := hat i p hp
    rw [Nat.zero_add] at h3
    obtain ⟨-, y, k2, k3⟩ := hc2 _ _ h3
    unfold VR at k3
    subst k3
    exact k2
theorem spPath_sound : CallS Tryz.prog spPath := fun f args h v h' he => by
  unfold spPath at he
  split at he <;> first | (cases he; done) | skip
  rename_i hf
  have hf := Nat.eq_of_beq_eq_true hf
  subst hf
  split at he <;> first | (cases he; done) | skip
  rename_i t g
  split at he <;> first | (cases he; done) | skip
  rename_i gt cg gs ht
  split at he <;> first | (cases he; done) | skip
  rename_i hin
  split at he <;> first | (cases he; done) | skip
  rename_i h1 hfr
  simp only [Option.some.injEq, Prod.mk.injEq] at he
  obtain ⟨rfl, rfl⟩ := he
  unfold inB at hin
  rw [Bool.and_eq_true] at hin
  have hg1 := Nat.le_of_ble_eq_true hin.1
  have hg2 := Nat.le_of_ble_eq_true hin.2
  refine ⟨fn_path, fun ρ w args' hH ha => ?_⟩
  obtain ⟨y, ys, hy, hp, hys⟩ := ha.uncons
  obtain ⟨y2, hy2, hp2⟩ := hys.one
  unfold VR at hp hp2
  obtain ⟨b, s, hb, rfl⟩ := hp
  subst hp2
  have hargs : args' = #[.pointer (some ⟨b, 0, none⟩), .int .i64 (Int.ofNat g)] := by
    apply Array.ext'
    rw [hy, hy2]
  subst hargs
  obtain ⟨G, c, ct, ca, q1, q2, q3, q4, q5, q6, q7, q8, q9, -⟩ := treeAt_ok ht hH hb
  obtain ⟨m, hm, hall⟩ := own_all w [(b, .cells ct 152), (G, .cells ca 149)] (fun q hq => by
    simp only [List.mem_cons, List.not_mem_nil, or_false] at hq
    rcases hq with rfl | rfl
    · exact q1
    · exact q2) (by simp [q3])
  refine (path_in (g := Int.ofNat g) q5 q6 q7 q8 (by show (1 : Int) ≤ (g : Int); omega) (by show (g : Int) ≤ _; omega) q4 q9 hm).mono ?_
  rintro e w' ⟨bn, cap, cur, rfl, k1, k2, k3, k4, hO⟩
  obtain ⟨hbl, hge⟩ := own_all_back (n := [(bn, .cells cur 3)]) hall hO
  have hbn := hge _ List.mem_cons_self
  have hcur := hO.get List.mem_cons_self
  obtain ⟨hnx, hget⟩ := fresh_spec hfr
  have hor : OR ρ (cellsOf 3 ((upL gs (Int.ofNat g)).map (AV.int .i64))) cur.size w'.heap[bn]? := by
    refine ⟨cur, hcur, rfl, by rw [List.length_map]; omega, fun i v hv => ?_⟩
    obtain ⟨x, hx, rfl⟩ : ∃ x, (upL gs (Int.ofNat g))[i]? = some x ∧ v = .int .i64 x := by
      have := mkCells_get hv
      rw [List.getElem?_map] at this
      obtain ⟨x, hx, hxv⟩ := Option.map_eq_some_iff.1 this
      exact ⟨x, hx, hxv.symm⟩
    refine ⟨rfl, .int .i64 x, ?_, by unfold VR; rfl⟩
    have hlt : i < (upL gs (Int.ofNat g)).length := (List.getElem?_eq_some_iff.1 hx).1
    have := congrArg (fun l => l[i]?) k1
    simp only [List.getElem?_take, hlt, if_true, List.getElem?_map, hx, Option.map_some] at this
    simpa using this
  have hst := (Stp.name (g1 := h.get) (g' := h1.get) (nx := h.next) (w' := w') hH h.next (hH.fresh _ (Nat.le_refl _)) h1.next (by omega) (by omega) (.inr trivial) hor hbl.os hbl.tape hbl.output hbl.size (fun d hd _ => hbl.block d hd) (fun n s' hn hp => by
    obtain ⟨o', ho'⟩ := Option.isSome_iff_exists.1 hn
    obtain ⟨b3, s3, hb3, hO3⟩ := hH.obj n o' ho'
    rw [hp] at hb3
    cases hb3
    rw [Array.getElem?_eq_none hbn] at hO3
    exact hO3.notNone) (.inl hbn) (fun _ _ h => h) hget).2.2 (Nat.le_refl _)
  exact ⟨_, _, rfl, by unfold VR; exact ⟨bn, cur.size, cap, if_pos rfl, rfl, k3, k4, trivial⟩, hst⟩
end
end
end Go.Proofs.YtfgomgodfcdijaaGreatDoor.Ex
