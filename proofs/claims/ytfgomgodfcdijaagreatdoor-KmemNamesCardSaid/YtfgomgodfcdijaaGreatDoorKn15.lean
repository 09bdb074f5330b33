/-
  Texts of this claim, joined. No condition.
-/
import Derived.Test.YtfgomgodfcdijaaGreatDoorKn14
import Derived.Test.YtfgomgodfcdijaaGreatDoorKn12
import Derived.RangeFuncNested
import Derived.RangeFuncFrom
import Derived.RangeFuncBox
import Derived.RangeFuncBound
import Derived.RangeFuncWrites
import Derived.Shelf.Abstract
import Derived.Shelf.RegionOpen
import Derived.OwnWalkIn
import Derived.TacticsInMore
import Derived.LoopNIn
import Derived.LoopIn
import Derived.Scope
import Derived.Test.YtfgomgodfcdijaaGreatDoorKn13
/-
  What a memory tells of pick.Next, where there is one processor, and of tree.Heir; processors of which none runs. No condition.
-/
namespace Go.Proofs.YtfgomgodfcdijaaGreatDoor.Ex
open Go Tr
noncomputable section
def spNext : Sp := fun f args h => match Nat.beq f 32 with
  | false => none
  | true => match args with
    | [.sl b 0 1 1 _, .int .i64 _last] => match h.get b with
      | some (.cells cs _ _) => match cs.get 0 with
        | some (.bool is) => some (.tup [.int .i64 0, .bool is], h)
        | _ => none
      | _ => none
    | _ => none
/-- no processor runs -/
def rngN : AV → AH → Bool := fun v h => match v with
  | .fn (.func f) [] [.ptr b 0] => match Nat.beq f 103 with
    | true => match h.get b with
      | some (.cells cs _ _) => match cs.get 0 with
        | some (.sl r 0 1 1 _) => match h.get r with
          | some (.cells cr _ _) => match cr.get 0 with
            | some (.bool false) => true
            | _ => false
          | _ => false
        | _ => false
      | _ => false
    | false => false
  | _ => false
/-- groups, out of cells: which are off -/
def offsAt (cs : T AV) : Nat → Nat → Option (List Bool)
  | _, 0 => some []
  | i, n + 1 => match cs.get (Nat.add i 2) with
    | some (.bool a) => match offsAt cs (Nat.add i 3) n with
      | some l => some (a :: l)
      | none => none
    | _ => none
/-- the first group that is online -/
def firstOn (offs : List Bool) : List Int → Int
  | [] => 0
  | g :: l => match offs.getD (g - 1).toNat true with
    | true => firstOn offs l
    | false => g
def spHeir : Sp := fun f args h => match Nat.beq f 116 with
  | false => none
  | true => match args with
    | [.ptr t 0, .int .i64 (.ofNat g)] => match treeAt h t with
      | some (_, cg, gs) => match inB g gs with
        | true => match offsAt cg 0 gs.length with
          | some offs => some (.int .i64 (firstOn offs (upL gs (Int.ofNat g))), h)
          | none => none
        | false => none
      | none => none
    | _ => none
end
end Go.Proofs.YtfgomgodfcdijaaGreatDoor.Ex

/-
  What a memory tells of pick.Next, where there is one processor. No condition.
-/
namespace Go.Proofs.YtfgomgodfcdijaaGreatDoor.Ex
open Go Go.RowKit Go.Shelf
attribute [local go_sem] Oper.semAt_some
noncomputable section
def mOf : Value → Nat
  | .int _ n => 1 - n.toNat
  | _ => 0
theorem fn_next : FnOk Tryz.prog 32 := ⟨Tryz.f32, _, Tryz.func32, by kernel_rfl, rfl⟩
theorem running_in (n : Nat) (A : Option Addr) (k c : Nat) (w : World) :
    CallsIn Fence.wide n Tryz.prog 61 #[.slice A k c] w fun e w' => e = .returned (.func (.func 103) #[] #[.pointer (some ⟨w.heap.size, 0, none⟩)]) ∧ w' = w.alloc (.cells #[.slice A k c] 86) := by
  refine callsIn_of_wp Tryz.func61 rfl trivial ?_ rfl
  simp only [Tryz.ntmps61, List.size_toArray, List.length_cons, List.length_nil, Nat.reduceAdd, Nat.reduceSub, Array.replicate_succ, Array.replicate_zero, List.push_toArray, List.append_toArray, List.nil_append, List.cons_append]
  gi_wp2
  go_ret
  exact ⟨rfl, rfl⟩
set_option maxRecDepth 100000 in
set_option maxHeartbeats 2000000 in
theorem running_stops (n : Nat) (hn : 2 ≤ n) (Br R c : Nat) (bv : Bool) (_hc : 1 ≤ c) (_hcm : c ≤ 9223372036854775807) (w : World) (hBr : w.cell? ⟨Br, 0, none⟩ = some (.slice (some ⟨R, 0, none⟩) 1 c)) (hR : w.cell? ⟨R, 0, none⟩ = some (.bool bv)) :
    SeqStopsK Fence.wide n Tryz.prog 103 #[.pointer (some ⟨Br, 0, none⟩)] (fun _ : Unit => #[.int .i64 0]) (fun _ _ => True) (fun xs => xs = if bv then [()] else []) (fun pre => pre = [()] ∧ bv = true) 2 w := by
  intro l J Jx W hW aJ aJx hY h0
  have hn1 : 1 ≤ n := by omega
  have hlt : ∀ {a : Addr} {v : Value}, w.cell? a = some v → a.block < w.heap.size := fun {a v} h => by
    by_cases hl : a.block < w.heap.size
    · exact hl
    · have : w.heap[a.block]? = none := Array.getElem?_eq_none (by omega)
      simp [World.cell?, this] at h
  have c1 := (hW.cell (p := ⟨Br, 0, none⟩) (hlt hBr)).trans hBr
  have c2 := (hW.cell (p := ⟨R, 0, none⟩) (hlt hR)).trans hR
  show CallsIn Fence.wide n Tryz.prog 103 #[.func (.yield l) #[] #[], .pointer (some ⟨Br, 0, none⟩)] W _
  refine callsIn_of_wp Tryz.func103 rfl trivial ?_ rfl
  simp only [Tryz.ntmps103, List.size_toArray, List.length_cons, List.length_nil, Nat.reduceAdd, Nat.reduceSub, Array.replicate_succ, Array.replicate_zero, List.push_toArray, List.append_toArray, List.nil_append, List.cons_append]
  gi_wp2
  gi_loopw [7] (fun p wr => (p = .int .i64 0 ∧ J [] wr ∧ wr.cell? ⟨R, 0, none⟩ = some (.bool bv)) ∨ (p = .int .i64 1 ∧ J (if bv then [()] else []) wr)) (fun p _ => mOf p)
  case atStart => exact .inl ⟨rfl, h0, c2⟩
  case round =>
    rcases hrel with ⟨rfl, hj, c3⟩ | ⟨rfl, hj⟩
    · cases bv with
      | true =>
        obtain ⟨fn, tmps, assign, body, hy, hR⟩ := hY [] () wr hj (by simp)
        gi_wp2
        refine hR.mono ?_
        rintro e W3 (⟨rfl, h3, -⟩ | ⟨rfl, h3⟩)
        · gi_wp2
          go_roundw
          case rel => exact .inr ⟨rfl, h3⟩
          case measure => simp [mOf]
        · gi_wp2
          refine bodyPost_ret (results_none rfl _ _ _) rfl ?_
          exact ⟨⟨_, rfl⟩, .inr (by first | exact h3 | exact ⟨_, ⟨rfl, rfl⟩, h3⟩)⟩
      | false =>
        gi_wp2
        refine ⟨fun _ h => (by cases h), ?_⟩
        gi_wp2
        go_roundw
        case rel => exact .inr ⟨rfl, hj⟩
        case measure => simp [mOf]
    · cases bv
      all_goals
        gi_wp2
        go_end0
        first | exact ⟨⟨_, rfl⟩, .inl hj⟩ | exact ⟨⟨_, rfl⟩, hj⟩ | exact ⟨⟨_, rfl⟩, .inl ⟨_, rfl, hj⟩⟩
set_option maxRecDepth 100000 in
set_option maxHeartbeats 4000000 in
theorem next_in (R c : Nat) (bv : Bool) (last : Int) (hc : 1 ≤ c) (hcm : c ≤ 9223372036854775807) (w : World) (hRl : R < w.heap.size) (hR : w.cell? ⟨R, 0, none⟩ = some (.bool bv)) :
    CallsIn Fence.wide 8 Tryz.prog 32 #[.slice (some ⟨R, 0, none⟩) 1 c, .int .i64 last] w fun e W' => e = .returned (.tuple #[.int .i64 0, .bool bv]) ∧ Below w.heap.size w W' := by
  refine callsIn_of_wp_marks Tryz.func32 rfl trivial ?_ rfl
  simp only [Tryz.ntmps32, List.size_toArray, List.length_cons, List.length_nil, Nat.reduceAdd, Nat.reduceSub, Array.replicate_succ, Array.replicate_zero, List.push_toArray, List.append_toArray, List.nil_append, List.cons_append]
  have hw : Fence.wide.fn 61 := trivial
  have hn1 : 1 ≤ 8 := by omega
  gi_wp2
  refine (wpIn_wide (n := 8)).2 (wp_scope_straight ((wpIn_wide (n := 8)).1 ?_))
  gi_wp2
  refine wpIn_label ?_
  gi_wp2_with (gi_at_call 61; refine (running_in 7 _ _ _ _).mono ?_; rintro e w' ⟨rfl, rfl⟩)
  have b0 := ((((Boxed.new w 3 (.int .i64 last)).alloc (.cells #[.int .i64 0] 3)).alloc (.cells #[.bool false] 4)).alloc (.cells #[.int .i64 (-1)] 3)).alloc (.cells #[.slice (some ⟨R, 0, none⟩) 1 c] 86)
  have b1 := (((Boxed.new (w.alloc (.cells #[.int .i64 last] 3)) 3 (.int .i64 0)).alloc (.cells #[.bool false] 4)).alloc (.cells #[.int .i64 (-1)] 3)).alloc (.cells #[.slice (some ⟨R, 0, none⟩) 1 c] 86)
  have b2 := ((Boxed.new ((w.alloc (.cells #[.int .i64 last] 3)).alloc (.cells #[.int .i64 0] 3)) 4 (.bool false)).alloc (.cells #[.int .i64 (-1)] 3)).alloc (.cells #[.slice (some ⟨R, 0, none⟩) 1 c] 86)
  have b3 := (Boxed.new (((w.alloc (.cells #[.int .i64 last] 3)).alloc (.cells #[.int .i64 0] 3)).alloc (.cells #[.bool false] 4)) 3 (.int .i64 (-1))).alloc (.cells #[.slice (some ⟨R, 0, none⟩) 1 c] 86)
  have b4 := Boxed.new ((((w.alloc (.cells #[.int .i64 last] 3)).alloc (.cells #[.int .i64 0] 3)).alloc (.cells #[.bool false] 4)).alloc (.cells #[.int .i64 (-1)] 3)) 86 (.slice (some ⟨R, 0, none⟩) 1 c)
  simp only [World.size_alloc] at b0 b1 b2 b3 b4
  have hB0 : Below w.heap.size w (((((w.alloc (.cells #[.int .i64 last] 3)).alloc (.cells #[.int .i64 0] 3)).alloc (.cells #[.bool false] 4)).alloc (.cells #[.int .i64 (-1)] 3)).alloc (.cells #[.slice (some ⟨R, 0, none⟩) 1 c] 86)) :=
    (((((Below.refl _ w).alloc (Nat.le_refl _) _).alloc (by simp) _).alloc (by simp; omega) _).alloc (by simp; omega) _).alloc (by simp; omega) _
  have hsz : (((((w.alloc (.cells #[.int .i64 last] 3)).alloc (.cells #[.int .i64 0] 3)).alloc (.cells #[.bool false] 4)).alloc (.cells #[.int .i64 (-1)] 3)).alloc (.cells #[.slice (some ⟨R, 0, none⟩) 1 c] 86)).heap.size = w.heap.size + 5 := by simp
  obtain ⟨W0, hW0⟩ : ∃ W0, (((((w.alloc (.cells #[.int .i64 last] 3)).alloc (.cells #[.int .i64 0] 3)).alloc (.cells #[.bool false] 4)).alloc (.cells #[.int .i64 (-1)] 3)).alloc (.cells #[.slice (some ⟨R, 0, none⟩) 1 c] 86)) = W0 := ⟨_, rfl⟩
  rw [hW0] at b0 b1 b2 b3 b4 hB0 hsz ⊢
  clear hW0
  have hR0 := (hB0.cell (p := ⟨R, 0, none⟩) hRl).trans hR
  obtain ⟨fst, hfst⟩ : ∃ fst : List Unit → Int, fst = fun pre => if pre = [] then -1 else 0 := ⟨_, rfl⟩
  have f0 : fst [] = -1 := by rw [hfst]; simp
  have f1 : ∀ pre x, fst (pre ++ [x]) = 0 := fun pre x => by rw [hfst]; simp
  have f2 : ∀ pre, fst pre = -1 ∨ fst pre = 0 := fun pre => by rw [hfst]; by_cases h : pre = [] <;> simp [h]
  clear hfst
  rw [← f0] at b3
  refine wpIn_rangeFunc_ownF rfl hn1 (gf := 103) (lb := #[.pointer (some ⟨w.heap.size + 1 + 1 + 1 + 1, 0, none⟩)]) rfl trivial (enters_of Tryz.func103 (by kernel_rfl) rfl)
    (running_stops 7 (by omega) (w.heap.size + 1 + 1 + 1 + 1) R c bv hc hcm W0 b4.cell hR0) (fun _ _ => trivial) (fun _ _ _ _ _ _ _ _ => trivial) (Below.refl _ _) (fun _ => rfl)
    (fun pre W => (Boxed W w.heap.size 3 (.int .i64 last) ∧ Boxed W (w.heap.size + 1) 3 (.int .i64 0) ∧ Boxed W (w.heap.size + 1 + 1) 4 (.bool false) ∧ Boxed W (w.heap.size + 1 + 1 + 1) 3 (.int .i64 (fst pre))) ∧ Below w.heap.size w W)
    (fun c pre W => (c = .ret ∧ Boxed W (w.heap.size + 1) 3 (.int .i64 0) ∧ Boxed W (w.heap.size + 1 + 1) 4 (.bool true)) ∧ Below w.heap.size w W)
    (OwnFrom.and (OwnFrom.and (Own.from (boxed_own _ _ _) _) (OwnFrom.and (Own.from (boxed_own _ _ _) _) (OwnFrom.and (Own.from (boxed_own _ _ _) _) (Own.from (boxed_own _ _ (fun pre => Value.int .i64 (fst pre))) _)))) (ownFrom_below (Nat.le_refl _) (by omega)))
    (fun c => OwnFrom.and (OwnFrom.and (ownFrom_pure _ _) (OwnFrom.and (Own.from (boxed_own _ _ _) _) (Own.from (boxed_own _ _ _) _))) (ownFrom_below (Nat.le_refl _) (by omega)))
    ⟨⟨b0, b1, b2, b3⟩, hB0⟩
    (fun x => { tmps := #[.slice (some ⟨R, 0, none⟩) 1 c, .int .i64 last, undef, .pointer (some ⟨w.heap.size, 0, none⟩), .pointer (some ⟨w.heap.size + 1, 0, none⟩), .pointer (some ⟨w.heap.size + 1 + 1, 0, none⟩), .pointer (some ⟨w.heap.size + 1 + 1 + 1, 0, none⟩), .int .i64 0, .slice (some ⟨R, 0, none⟩) 1 c, .func (.func 103) #[] #[.pointer (some ⟨w.heap.size + 1 + 1 + 1 + 1, 0, none⟩)], .int .i64 0, undef, undef, undef, undef, undef, undef, undef, undef, undef, undef, undef, undef, undef], defers := [] }) ?assign ?body ?done ?stop
  case assign =>
    intro l x W K hK
    gi_wp2
    exact hK
  case body =>
    rintro l pre x W ⟨⟨b0, b1, b2, b3⟩, hB⟩ _
    have c0 := b0.cell; have c1 := b1.cell; have c2 := b2.cell; have c3 := b3.cell
    have e1 := b1.frozen; have e2 := b2.frozen; have e3 := b3.frozen
    by_cases hl : last < 0
    · gi_wp2
      exact ⟨(KeepsOthers.setCell _ _ _).trans (KeepsOthers.setCell _ _ _), ⟨rfl, (b1.set _).other (by omega) _, (b2.other (by omega) _).set _⟩, (hB.setCell (p := ⟨w.heap.size + 1, 0, none⟩) (by simp) _).setCell (p := ⟨w.heap.size + 1 + 1, 0, none⟩) (by simp; omega) _⟩
    · rcases f2 pre with hf | hf
      · rw [hf] at c3
        gi_wp2
        exact ⟨KeepsOthers.setCell _ _ _, trivial, ⟨b0.other (by omega) _, b1.other (by omega) _, b2.other (by omega) _, by rw [f1]; exact b3.set _⟩, hB.setCell (p := ⟨w.heap.size + 1 + 1 + 1, 0, none⟩) (by simp; omega) _⟩
      · rw [hf] at c3
        gi_wp2
        exact ⟨KeepsOthers.refl _, trivial, ⟨b0, b1, b2, by rw [f1, ← hf]; exact b3⟩, hB⟩
  case done =>
    rintro D ys W hD rfl ⟨⟨b0, b1, b2, b3⟩, hB⟩ hK
    have c1 := b1.cell; have c2 := b2.cell; have c3 := b3.cell
    have e1 := b1.frozen; have e2 := b2.frozen; have e3 := b3.frozen
    have hgo : ∀ W' : World, KeepsOthers W W' → Below w.heap.size w W' → Boxed W' (w.heap.size + 1) 3 (.int .i64 0) → Boxed W' (w.heap.size + 1 + 1) 4 (.bool bv) → ∀ tmps : Array Value, tmps[4]? = some (.pointer (some ⟨w.heap.size + 1, 0, none⟩)) → tmps[5]? = some (.pointer (some ⟨w.heap.size + 1 + 1, 0, none⟩)) →
        LeavesInM Fence.wide 8 Tryz.prog Tryz.f32 tmps (fun e W' => e = .returned (.tuple #[.int .i64 0, .bool bv]) ∧ Below w.heap.size w W') [{ target := .collected D, args := #[] }] .returning W' := fun W' hk hB' h1 h2 tmps t4 t5 => by
      have hK' := hk.same D _ hK rfl
      refine ⟨by simp, .inl ⟨_, _, rfl, run_takeDeferred hK', ?_⟩⟩
      have hc5 := cell_kept h1.cell (grownBy_putObj' _ D (.deferred none)) (fun r e => by cases e; exact ⟨_, hK', rfl⟩)
      have hc6 := cell_kept h2.cell (grownBy_putObj' _ D (.deferred none)) (fun r e => by cases e; exact ⟨_, hK', rfl⟩)
      refine ⟨_, ?_, rfl, hB'.trans (belowK_b (w := w) (Nat.le_refl _) W' D _ _ (by omega) hK' rfl rfl)⟩
      simp [results, Tryz.f32, go_sem, t4, t5, hc5, hc6]
    cases bv with
    | true =>
      have h0 : fst (if true = true then [()] else []) = 0 := f1 [] ()
      rw [h0] at c3
      clear b4 hR hR0 b0 hB0
      gi_wp2
      gi_region
      all_goals gi_wp2
      all_goals exact hgo _ ((KeepsOthers.drew _).trans ((KeepsOthers.setCell _ _ _).trans (KeepsOthers.setCell _ _ _))) ((hB.drew.setCell (p := ⟨w.heap.size + 1, 0, none⟩) (by simp) _).setCell (p := ⟨w.heap.size + 1 + 1, 0, none⟩) (by simp; omega) _) ((Boxed.set _ (show Boxed W.drew _ _ _ from b1)).other (by omega) _) ((Boxed.other (show Boxed W.drew _ _ _ from b2) (by omega) _).set _) _ rfl rfl
    | false =>
      have h0 : fst (if false = true then [()] else []) = -1 := f0
      rw [h0] at c3
      clear b4 hR hR0 b0 hB0
      gi_wp2
      gi_region
      all_goals gi_wp2
      all_goals exact hgo _ ((KeepsOthers.drew _).trans ((KeepsOthers.setCell _ _ _).trans (KeepsOthers.setCell _ _ _))) ((hB.drew.setCell (p := ⟨w.heap.size + 1, 0, none⟩) (by simp) _).setCell (p := ⟨w.heap.size + 1 + 1, 0, none⟩) (by simp; omega) _) ((Boxed.set _ (show Boxed W.drew _ _ _ from b1)).other (by omega) _) ((Boxed.other (show Boxed W.drew _ _ _ from b2) (by omega) _).set _) _ rfl rfl
  case stop =>
    rintro D c pre W hD ⟨rfl, rfl⟩ ⟨⟨rfl, b1, b2⟩, hB⟩ hK
    have c1 := b1.cell; have c2 := b2.cell
    gi_wp2
    show LeavesInM Fence.wide 8 Tryz.prog Tryz.f32 _ _ _ _ _
    refine ⟨by simp, .inl ⟨_, _, rfl, run_takeDeferred hK, ?_⟩⟩
    have hc5 := cell_kept c1 (grownBy_putObj' _ D (.deferred none)) (fun r e => by cases e; exact ⟨_, hK, rfl⟩)
    have hc6 := cell_kept c2 (grownBy_putObj' _ D (.deferred none)) (fun r e => by cases e; exact ⟨_, hK, rfl⟩)
    refine ⟨_, ?_, rfl, hB.trans (belowK_b (w := w) (Nat.le_refl _) W D _ _ (by omega) hK rfl rfl)⟩
    simp [results, Tryz.f32, go_sem, hc5, hc6]
section
variable [Nums]
theorem spNext_sound : CallS Tryz.prog spNext := fun f args h v h' he => by
  unfold spNext at he
  split at he <;> first | (cases he; done) | skip
  rename_i hf
  have hf := Nat.eq_of_beq_eq_true hf
  subst hf
  split at he <;> first | (cases he; done) | skip
  rename_i b r last
  split at he <;> first | (cases he; done) | skip
  rename_i cs k e hg
  split at he <;> first | (cases he; done) | skip
  rename_i bv hbv
  simp only [Option.some.injEq, Prod.mk.injEq] at he
  obtain ⟨rfl, rfl⟩ := he
  refine ⟨fn_next, fun ρ w args' hH ha => ?_⟩
  obtain ⟨y, ys, hy, hp, hys⟩ := ha.uncons
  obtain ⟨y2, hy2, hp2⟩ := hys.one
  unfold VR at hp hp2
  obtain ⟨R, s, c, hb, rfl, hlc, hcm, -⟩ := hp
  subst hp2
  have hargs : args' = #[.slice (some ⟨R, 0, none⟩) 1 c, .int .i64 last] := by
    apply Array.ext'
    rw [hy, hy2]
  subst hargs
  obtain ⟨b', s', hb', hO⟩ := hH.obj _ _ hg
  rw [hb] at hb'
  cases hb'
  obtain ⟨cur, hcur, -, -, hcells⟩ := hO
  obtain ⟨-, y, hy0, hvy⟩ := hcells 0 _ hbv
  unfold VR at hvy
  subst hvy
  have hcell : w.cell? ⟨R, 0, none⟩ = some (.bool bv) := by simp [World.cell?, hcur, hy0]
  unfold maxLen at hcm
  refine ((callsIn_wide).1 (next_in R c bv last hlc hcm w (heap_lt hcur) hcell)).mono ?_
  rintro e w' ⟨rfl, hbl⟩
  exact ⟨ρ, _, rfl, by unfold VR; exact ⟨_, rfl, VRs.cons (by unfold VR; rfl) (VRs.cons (by unfold VR; rfl) VRs.nil)⟩, Stp.left hH hbl⟩
end
end
end Go.Proofs.YtfgomgodfcdijaaGreatDoor.Ex

/-
  Ranges over iterators that yield nothing: slices.Backward of nothing; processors of which none runs. No condition.
-/
namespace Go.Proofs.YtfgomgodfcdijaaGreatDoor.Ex
open Go Go.RowKit
section
theorem run1_none {w : World} {Br R c : Nat} (_hc : 1 ≤ c) (_hcm : c ≤ 9223372036854775807) (hBr : w.cell? ⟨Br, 0, none⟩ = some (.slice (some ⟨R, 0, none⟩) 1 c)) (hR : w.cell? ⟨R, 0, none⟩ = some (.bool false)) (l : Nat) :
    Calls Tryz.prog 103 #[.func (.yield l) #[] #[], .pointer (some ⟨Br, 0, none⟩)] w fun e w' => (∃ u, e = .returned u) ∧ Below w.heap.size w w' := by
  go_enter Tryz.func103, Tryz.ntmps103
  go_wp2_with fail
  go_loop [7] (fun k => k = .int .i64 0 ∨ k = .int .i64 1) (fun k => mOf k)
  case atStart => exact .inl rfl
  case round =>
    rcases hrel with rfl | rfl
    · go_wp2
      go_round
      case rel => exact .inr rfl
      case measure => simp [mOf]
    · go_wp2
      go_end0
      exact ⟨⟨_, rfl⟩, Below.refl _ _⟩
end
section
variable [Nums]
theorem rngB_sound : RngS Tryz.prog rngB := fun v h he ρ w x hH hx => by
  unfold rngB at he
  split at he <;> first | (cases he; done) | skip
  rename_i f b
  split at he <;> first | (cases he; done) | skip
  rename_i hf
  have hf := Nat.eq_of_beq_eq_true hf
  subst hf
  split at he <;> first | (cases he; done) | skip
  rename_i cs k e hg
  split at he <;> first | (cases he; done) | skip
  rename_i n off z r hc0
  unfold VR at hx
  obtain ⟨a, c, rfl, h1, h2⟩ := hx
  obtain ⟨y, hy, hvy⟩ := h2.one
  unfold VR at hvy
  obtain ⟨B, s, hB, rfl⟩ := hvy
  have e1 : a = #[] := by
    apply Array.ext'
    unfold VRs at h1
    exact h1
  have e2 : c = #[.pointer (some ⟨B, 0, none⟩)] := by
    apply Array.ext'
    rw [hy]
  subst e1 e2
  obtain ⟨b', s', hb', hO⟩ := hH.obj _ _ hg
  rw [hB] at hb'
  cases hb'
  obtain ⟨cur, hcur, -, -, hcells⟩ := hO
  obtain ⟨-, u, hu, hvu⟩ := hcells 0 _ hc0
  unfold VR at hvu
  obtain ⟨g, sg, cp, hgn, rfl, -, -, -⟩ := hvu
  have hcell : w.cell? ⟨B, 0, none⟩ = some (.slice (some ⟨g, off, none⟩) 0 cp) := by simp [World.cell?, hcur, hu]
  exact ⟨164, _, rfl, enters_of Tryz.func164 (by kernel_rfl) rfl, fun l => back1_spec hcell l⟩
theorem rngN_sound : RngS Tryz.prog rngN := fun v h he ρ w x hH hx => by
  unfold rngN at he
  split at he <;> first | (cases he; done) | skip
  rename_i f b
  split at he <;> first | (cases he; done) | skip
  rename_i hf
  have hf := Nat.eq_of_beq_eq_true hf
  subst hf
  split at he <;> first | (cases he; done) | skip
  rename_i cs k e hg
  split at he <;> first | (cases he; done) | skip
  rename_i n r hc0
  split at he <;> first | (cases he; done) | skip
  rename_i cr k2 e2 hg2
  split at he <;> first | (cases he; done) | skip
  rename_i hcr
  unfold VR at hx
  obtain ⟨a, c, rfl, h1, h2⟩ := hx
  obtain ⟨y, hy, hvy⟩ := h2.one
  unfold VR at hvy
  obtain ⟨B, s, hB, rfl⟩ := hvy
  have e1 : a = #[] := by
    apply Array.ext'
    unfold VRs at h1
    exact h1
  have e2 : c = #[.pointer (some ⟨B, 0, none⟩)] := by
    apply Array.ext'
    rw [hy]
  subst e1 e2
  obtain ⟨b', s', hb', hO⟩ := hH.obj _ _ hg
  rw [hB] at hb'
  cases hb'
  obtain ⟨cur, hcur, -, -, hcells⟩ := hO
  obtain ⟨-, u, hu, hvu⟩ := hcells 0 _ hc0
  unfold VR at hvu
  obtain ⟨g, sg, cp, hgn, rfl, hlc, hcm, -⟩ := hvu
  have hcell : w.cell? ⟨B, 0, none⟩ = some (.slice (some ⟨g, 0, none⟩) 1 cp) := by simp [World.cell?, hcur, hu]
  obtain ⟨b2, s2, hb2, hO2⟩ := hH.obj _ _ hg2
  rw [hgn] at hb2
  cases hb2
  obtain ⟨cur2, hcur2, -, -, hcells2⟩ := hO2
  obtain ⟨-, u2, hu2, hvu2⟩ := hcells2 0 _ hcr
  unfold VR at hvu2
  subst hvu2
  have hcell2 : w.cell? ⟨g, 0, none⟩ = some (.bool false) := by simp [World.cell?, hcur2, hu2]
  unfold maxLen at hcm
  exact ⟨103, _, rfl, enters_of Tryz.func103 (by kernel_rfl) rfl, fun l => run1_none hlc hcm hcell hcell2 l⟩
end
end Go.Proofs.YtfgomgodfcdijaaGreatDoor.Ex

/-
  What a memory tells of tree.Heir: of any tree whose groups' parents stand ahead of them. No condition.
-/
namespace Go.Proofs.YtfgomgodfcdijaaGreatDoor.Ex
open Go Go.RowKit Go.Shelf Tr
open Jt (itB own_put up_spec)
section
attribute [local go_sem ↓] Go.wp_at_zero Go.wp_at_succ
theorem online_spec {w : World} {T G N c : Nat} (hTl : T < w.heap.size) (hGl : G < w.heap.size) (hT : w.cell? ⟨T, 0, none⟩ = some (.slice (some ⟨G, 0, none⟩) N c)) (hc : N ≤ c) (hN : N ≤ 1000) {g : Nat} (h1 : 1 ≤ g) (h2 : g ≤ N) {off : Bool} (hoff : w.cell? ⟨G, (g - 1) * 3 + 2, none⟩ = some (.bool off)) :
    Calls Tryz.prog 179 #[.pointer (some ⟨T, 0, none⟩), .int .i64 g] w fun e w' => e = .returned (.bool (!off)) ∧ Own w [] w' := by
  go_enter Tryz.func179, Tryz.ntmps179
  go_wp2_with (go_at_call 157; refine (of_in hTl hT hc hN h1 h2).mono ?_; rintro e w' ⟨rfl, h1⟩; have hoff2 := (h1.old (a := ⟨G, (g - 1) * 3 + 2, none⟩) hGl).trans hoff)
  go_ret
  exact ⟨rfl, h1⟩
end
section
attribute [local go_sem] Oper.semAt_some
variable {W w : World} {m : List (Nat × Obj)} {T G c : Nat} {ct cg : Array Value} {gs : List Int} {offs : List Bool} {g0 : Int}
/-- the blocks of the loop -/
def hB (Bg Bt T G : Nat) (ct cg : Array Value) (g : Int) (l : Nat) (rec : Loop) (D Br Bx : Nat) (r : Int) (m : List (Nat × Obj)) : List (Nat × Obj) :=
  itB Bg Bt T G ct cg g ++ (l, .loop rec) :: (D, .deferred (some [])) :: (Br, .cells #[.int .i64 r] 3) :: (Bx, .cells #[.pointer (some ⟨T, 0, none⟩)] 59) :: m
def offH (offs : List Bool) (x : Int) : Bool := offs.getD (x - 1).toNat true
theorem firstOn_off : ∀ {ss l : List Int}, (∀ x ∈ ss, offH offs x = true) → firstOn offs (ss ++ l) = firstOn offs l
  | [], l, _ => rfl
  | x :: ss, l, h => by
    have hx : offs.getD (x - 1).toNat true = true := h x List.mem_cons_self
    have ih := firstOn_off (l := l) fun y hy => h y (List.mem_cons_of_mem _ hy)
    rw [List.cons_append, ← ih, firstOn, hx]
def StH (W : World) (Bg Bt T G : Nat) (ct cg : Array Value) (l : Nat) (rec : Loop) (D Br Bx : Nat) (m : List (Nat × Obj)) (offs : List Bool) (g : Int) (ss : List Int) (wr : World) : Prop :=
  Own W (hB Bg Bt T G ct cg g l rec D Br Bx 0 m) wr ∧ ∀ x ∈ ss, offH offs x = true
theorem stH_it {Bg Bt l D Br Bx : Nat} {rec : Loop} (hct : ct[0]? = some (.slice (some ⟨G, 0, none⟩) gs.length c)) (hcg : Pars gs cg) : ItSt Bg Bt T G c gs (StH W Bg Bt T G ct cg l rec D Br Bx m offs) where
  own := fun h hO => ⟨h.1.of_self hO, h.2⟩
  set := fun {g g' ss w} h => ⟨h.1.set 0 (.int .i64 g'), h.2⟩
  at_ := fun {g ss w} h => by
    obtain ⟨h2, -⟩ := h
    have m0 : (Bg, Obj.cells #[.int .i64 g] 3) ∈ hB Bg Bt T G ct cg g l rec D Br Bx 0 m := List.mem_cons_self
    have m1 : (Bt, Obj.cells #[.pointer (some ⟨T, 0, none⟩)] 59) ∈ hB Bg Bt T G ct cg g l rec D Br Bx 0 m := List.mem_cons_of_mem _ List.mem_cons_self
    have m2 : (T, Obj.cells ct 152) ∈ hB Bg Bt T G ct cg g l rec D Br Bx 0 m := List.mem_cons_of_mem _ (List.mem_cons_of_mem _ List.mem_cons_self)
    have m3 : (G, Obj.cells cg 149) ∈ hB Bg Bt T G ct cg g l rec D Br Bx 0 m := List.mem_cons_of_mem _ (List.mem_cons_of_mem _ (List.mem_cons_of_mem _ List.mem_cons_self))
    exact ⟨h2.cell m0 0, h2.frozen m0 0, h2.cell m1 0, (h2.cell m2 0).trans hct, h2.lt m2, fun i p hp => (h2.cell m3 (i * 3)).trans (hcg i p hp)⟩
/-- the loop's record turns -/
theorem hB_put {Bg Bt l D Br Bx : Nat} {rec rec' : Loop} {g r : Int} (h : Own W (hB Bg Bt T G ct cg g l rec D Br Bx r m) w) : Own W (hB Bg Bt T G ct cg g l rec' D Br Bx r m) (w.putObj l (.loop rec')) := by
  unfold hB at h ⊢
  exact (own_put (o' := .loop rec') (h.perm List.perm_middle)).perm List.perm_middle.symm
theorem hB_res {Bg Bt l D Br Bx : Nat} {rec : Loop} {g r : Int} (r' : Int) (h : Own W (hB Bg Bt T G ct cg g l rec D Br Bx r m) w) : Own W (hB Bg Bt T G ct cg g l rec D Br Bx r' m) (w.setCell ⟨Br, 0, none⟩ (.int .i64 r')) := by
  unfold hB at h ⊢
  have h1 := Own.setIn (m1 := itB Bg Bt T G ct cg g ++ [(l, .loop rec), (D, .deferred (some []))]) (m2 := (Bx, .cells #[.pointer (some ⟨T, 0, none⟩)] 59) :: m) (by simpa using h) 0 (.int .i64 r')
  simpa using h1
theorem hB_loop {Bg Bt l D Br Bx : Nat} {rec : Loop} {g r : Int} (h : Own W (hB Bg Bt T G ct cg g l rec D Br Bx r m) w) : w.heap[l]? = some (.loop rec) := h.get (List.mem_append_right _ List.mem_cons_self)
theorem hB_def {Bg Bt l D Br Bx : Nat} {rec : Loop} {g r : Int} (h : Own W (hB Bg Bt T G ct cg g l rec D Br Bx r m) w) : w.heap[D]? = some (.deferred (some [])) := h.get (List.mem_append_right _ (List.mem_cons_of_mem _ List.mem_cons_self))
theorem hB_cell {Bg Bt l D Br Bx : Nat} {rec : Loop} {g r : Int} (h : Own W (hB Bg Bt T G ct cg g l rec D Br Bx r m) w) : w.cell? ⟨Br, 0, none⟩ = some (.int .i64 r) ∧ w.frozen? ⟨Br, 0, none⟩ = false ∧ w.cell? ⟨Bx, 0, none⟩ = some (.pointer (some ⟨T, 0, none⟩)) := by
  have m0 : (Br, Obj.cells #[.int .i64 r] 3) ∈ hB Bg Bt T G ct cg g l rec D Br Bx r m := List.mem_append_right _ (List.mem_cons_of_mem _ (List.mem_cons_of_mem _ List.mem_cons_self))
  have m1 : (Bx, Obj.cells #[.pointer (some ⟨T, 0, none⟩)] 59) ∈ hB Bg Bt T G ct cg g l rec D Br Bx r m := List.mem_append_right _ (List.mem_cons_of_mem _ (List.mem_cons_of_mem _ (List.mem_cons_of_mem _ List.mem_cons_self)))
  exact ⟨h.cell m0 0, h.frozen m0 0, h.cell m1 0⟩
theorem hB_out {Bg Bt l D Br Bx : Nat} {rec : Loop} {g r : Int} (o : Obj) (h : Own W (hB Bg Bt T G ct cg g l rec D Br Bx r m) w) : Own W ((T, .cells ct 152) :: (G, .cells cg 149) :: m) (w.putObj D o) := by
  have h1 : Own W ((itB Bg Bt T G ct cg g ++ [(l, .loop rec)]) ++ (D, .deferred (some [])) :: (Br, .cells #[.int .i64 r] 3) :: (Bx, .cells #[.pointer (some ⟨T, 0, none⟩)] 59) :: m) w := h
  have h2 := (own_put (o' := o) (h1.perm List.perm_middle)).skip
  exact h2.sub (.cons _ (.cons _ (.cons_cons _ (.cons_cons _ (.cons _ (.cons _ (.cons _ (List.Sublist.refl _))))))))
theorem heir_end {Bg Bt l D Br Bx : Nat} {rec : Loop} {g r : Int} (h : Own W (hB Bg Bt T G ct cg g l rec D Br Bx r m) w) {tmps : Array Value} (t4 : tmps[4]? = some (.pointer (some ⟨Br, 0, none⟩))) :
    LeavesInM Fence.wide 8 Tryz.prog Tryz.f116 tmps (fun e w' => e = .returned (.int .i64 r) ∧ Own W ((T, .cells ct 152) :: (G, .cells cg 149) :: m) w') [{ target := .collected D, args := #[] }] .returning w := by
  have hK := hB_def h
  refine ⟨by simp, .inl ⟨_, _, rfl, run_takeDeferred hK, ?_⟩⟩
  have hc := cell_kept (hB_cell h).1 (grownBy_putObj' _ D (.deferred none)) (fun r e => by cases e; exact ⟨_, hK, rfl⟩)
  refine ⟨_, ?_, rfl, hB_out _ h⟩
  simp [results, Tryz.f116, go_sem, t4, hc]
theorem wpIn_rangeFunc_outer {F : Fence} {n : Nat} {P : Program} {g : Operand} {ps : Array Tmp} {assign body : Code} {Q : Exit → Act → World → Prop} {a : Act} {w : World} (hro : F.round = none)
    (h : ∀ fn, F.fn fn → ∀ rec : Loop, rec = { state := .ready, pending := none, fn, tmps := a.tmps, params := ps, assign, body, defers := w.heap.size } → ∃ (d : Deferred) (f : FuncId) (args : Array Value),
      (resolve a.eval (rangeCall g (w.heap.size + 1)) 0).run P ((w.alloc (.deferred (some []))).alloc (.loop rec)) = .ok d ((w.alloc (.deferred (some []))).alloc (.loop rec)) ∧
      (∀ f', Target.leads P ((w.alloc (.deferred (some []))).alloc (.loop rec)) d.target d.args = some f' → F.fn f') ∧
      (invoke d.target d.args).run P ((w.alloc (.deferred (some []))).alloc (.loop rec)) = .ok (.enter f args) ((w.alloc (.deferred (some []))).alloc (.loop rec)) ∧
      (F.depth.isSome = true → 1 ≤ n) ∧
      CallsIn F (n - 1) P f args ((w.alloc (.deferred (some []))).alloc (.loop rec)) (rangePost F n P (w.heap.size + 1) Q { a with defers := { target := .collected w.heap.size, args := #[] } :: a.defers })) :
    (Code.rangeFunc g ps assign body).wpIn F n P Q a w := by
  refine wpIn_rangeFunc fun fn hfn => ?_
  rw [hro]
  obtain ⟨d, f, args, h1, h2, h3, h4, h5⟩ := h fn hfn _ rfl
  exact ⟨_, _, _, d, _, f, args, _, run_enterLoop_outer _ _ _ _ _, h1, h2, h3, h4, h5⟩
theorem hB_perm {Bg Bt l D Br Bx : Nat} {rec : Loop} {g r : Int} (h : Own W ((l, .loop rec) :: (D, .deferred (some [])) :: (Bg, .cells #[.int .i64 g] 3) :: (Bt, .cells #[.pointer (some ⟨T, 0, none⟩)] 59) :: (Br, .cells #[.int .i64 r] 3) :: (Bx, .cells #[.pointer (some ⟨T, 0, none⟩)] 59) :: (T, .cells ct 152) :: (G, .cells cg 149) :: m) w) : Own W (hB Bg Bt T G ct cg g l rec D Br Bx r m) w := by
  have h1 : Own W ([(l, .loop rec), (D, .deferred (some []))] ++ ([(Bg, .cells #[.int .i64 g] 3), (Bt, .cells #[.pointer (some ⟨T, 0, none⟩)] 59)] ++ ([(Br, .cells #[.int .i64 r] 3), (Bx, .cells #[.pointer (some ⟨T, 0, none⟩)] 59)] ++ ([(T, .cells ct 152), (G, .cells cg 149)] ++ m)))) w := h
  have h2 := h1.swap
  have h3 : Own W ([(Bg, .cells #[.int .i64 g] 3), (Bt, .cells #[.pointer (some ⟨T, 0, none⟩)] 59)] ++ ([(T, .cells ct 152), (G, .cells cg 149)] ++ ([(l, .loop rec), (D, .deferred (some []))] ++ ([(Br, .cells #[.int .i64 r] 3), (Bx, .cells #[.pointer (some ⟨T, 0, none⟩)] 59)] ++ m)))) w :=
    h2.perm (List.Perm.append_left _ (by
      refine List.Perm.trans ?_ (perm_swap ([(l, .loop rec), (D, .deferred (some []))] : List (Nat × Obj)) [(T, .cells ct 152), (G, .cells cg 149)] _)
      exact List.Perm.append_left _ (perm_swap _ _ _)))
  exact h3
set_option maxRecDepth 100000 in
set_option maxHeartbeats 2000000 in
theorem heir_in (hc : gs.length ≤ c) (h1 : 1 ≤ gs.length) (hN : gs.length ≤ 1000) (hw : Ahead gs) (_hg1 : 1 ≤ g0) (_hg2 : g0 ≤ gs.length) (hct : ct[0]? = some (.slice (some ⟨G, 0, none⟩) gs.length c)) (hcg : Pars gs cg) (hol : offs.length = gs.length) (hof : ∀ (i : Nat) b, offs[i]? = some b → cg[i * 3 + 2]? = some (.bool b))
    (h : Own W ((T, .cells ct 152) :: (G, .cells cg 149) :: m) w) :
    CallsIn Fence.wide 8 Tryz.prog 116 #[.pointer (some ⟨T, 0, none⟩), .int .i64 g0] w fun e w' => e = .returned (.int .i64 (firstOn offs (upL gs g0))) ∧ Own W ((T, .cells ct 152) :: (G, .cells cg 149) :: m) w' := by
  refine callsIn_of_wp_marks Tryz.func116 rfl trivial ?_ rfl
  simp only [Tryz.ntmps116, List.size_toArray, List.length_cons, List.length_nil, Nat.reduceAdd, Nat.reduceSub, Array.replicate_succ, Array.replicate_zero, List.push_toArray, List.append_toArray, List.nil_append, List.cons_append]
  have hup := (h.new (.cells #[.pointer (some ⟨T, 0, none⟩)] 59)).new (.cells #[.int .i64 0] 3)
  rw [World.size_alloc] at hup
  have hf : Fence.wide.fn 92 := trivial
  have hn1 : 1 ≤ 8 := by omega
  gi_wp2_with (gi_at_call 92; refine (callsIn_wide.2 (up_spec hup g0)).mono ?_; rintro e w1 ⟨b1, b2, rfl, hO⟩)
  refine wpIn_rangeFunc_outer rfl fun fn hfn rec hrec => ?_
  refine ⟨{ target := .fn (.func 156) #[.pointer (some ⟨b1, 0, none⟩), .pointer (some ⟨b2, 0, none⟩)], args := #[.func (.yield (w1.heap.size + 1)) #[] #[]] }, 156,
    #[.func (.yield (w1.heap.size + 1)) #[] #[], .pointer (some ⟨b1, 0, none⟩), .pointer (some ⟨b2, 0, none⟩)], ?_, ?_, ?_, fun _ => by omega, ?_⟩
  · simp [resolve, go_sem]
  · intro f' hf'; trivial
  · simp [invoke, go_sem]
  have hOD := (hO.new (.deferred (some []))).new (.loop rec)
  obtain ⟨W1, hW1⟩ : ∃ W1, (w1.alloc (.deferred (some []))).alloc (.loop rec) = W1 := ⟨_, rfl⟩
  rw [hW1, World.size_alloc] at hOD
  rw [hW1]
  clear hW1
  have hO1 : Own W (hB b2 b1 T G ct cg g0 (w1.heap.size + 1) rec w1.heap.size (w.heap.size + 1) w.heap.size 0 m) W1 := hB_perm hOD
  obtain ⟨rd, hrd⟩ : ∃ rd : Loop, rd = { rec with state := .done, pending := some .ret } := ⟨_, rfl⟩
  refine (up1_in 7 (by omega) (w1.heap.size + 1) b2 b1 T G c gs hc h1 hN hw (StH W b2 b1 T G ct cg (w1.heap.size + 1) rec w1.heap.size (w.heap.size + 1) w.heap.size m offs) (fun wr => ∃ g v, Own W (hB b2 b1 T G ct cg g (w1.heap.size + 1) rd w1.heap.size (w.heap.size + 1) w.heap.size v m) wr ∧ firstOn offs (upL gs g0) = v) (stH_it hct hcg) g0 (fun x ss wr hst hx1 hx2 hss => ?_) W1 ⟨hO1, fun x hx => by cases hx⟩).mono ?_
  · obtain ⟨k1, k2⟩ := hst
    have hl := hB_loop k1
    have hbr := run_beginRound (P := Tryz.prog) hl (by rw [hrec])
    have k3 := hB_put (rec' := { rec with state := .busy }) k1
    obtain ⟨W2, hW2⟩ : ∃ W2, wr.putObj (w1.heap.size + 1) (.loop { rec with state := .busy }) = W2 := ⟨_, rfl⟩
    rw [hW2] at hbr k3
    clear hW2
    obtain ⟨c1, c2, c3⟩ := hB_cell k3
    refine ⟨rec.fn, _, rec.assign, rec.body, run_yield (args := #[.int .i64 x]) hl (by rw [hrec]; rfl), roundIn_of_wpIn (by rw [hrec]; exact hfn) ?_⟩
    have ea := congrArg Loop.assign hrec
    have eb := congrArg Loop.body hrec
    have et := congrArg Loop.tmps hrec
    have ep := congrArg Loop.params hrec
    dsimp only at ea eb et ep
    rw [ea, eb, et, ep]
    clear ea eb et ep
    obtain ⟨X, rfl⟩ : ∃ X : Nat, x = (X : Int) := ⟨x.toNat, by omega⟩
    have hX1 : 1 ≤ X := by omega
    have hX2 : X ≤ gs.length := by omega
    have hlt : X - 1 < offs.length := by omega
    obtain ⟨off, hoff⟩ : ∃ off, offs[X - 1]? = some off := ⟨_, List.getElem?_eq_getElem hlt⟩
    have hgd : offs.getD ((X : Int) - 1).toNat true = off := by
      rw [show ((X : Int) - 1).toNat = X - 1 by omega, List.getD_eq_getElem?_getD, hoff]
      rfl
    have m2 : (T, Obj.cells ct 152) ∈ hB b2 b1 T G ct cg X (w1.heap.size + 1) { rec with state := .busy } w1.heap.size (w.heap.size + 1) w.heap.size 0 m := List.mem_cons_of_mem _ (List.mem_cons_of_mem _ List.mem_cons_self)
    have m3 : (G, Obj.cells cg 149) ∈ hB b2 b1 T G ct cg X (w1.heap.size + 1) { rec with state := .busy } w1.heap.size (w.heap.size + 1) w.heap.size 0 m := List.mem_cons_of_mem _ (List.mem_cons_of_mem _ (List.mem_cons_of_mem _ List.mem_cons_self))
    have hon := online_spec (k3.lt m2) (k3.lt m3) ((k3.cell m2 0).trans hct) hc hN hX1 hX2 ((k3.cell m3 _).trans (hof _ _ hoff))
    have er : ({ ({ rec with state := .busy } : Loop) with state := .ready, pending := none } : Loop) = rec := by rw [hrec]
    have hw2 : Fence.wide.fn 179 := trivial
    have hn2 : 1 ≤ 7 - 1 := by omega
    clear hrec hOD hO1 hO hup k1 h
    cases off with
    | true =>
      gi_wp2_with (gi_at_call 179; refine (CallsIn.inRound (w1.heap.size + 1) (callsIn_wide.2 hon)).mono ?_; rintro e w3 ⟨rfl, h3⟩)
      have k4 := k3.of_self h3
      have hend := run_endRound (P := Tryz.prog) none (hB_loop k4)
      simp only [Option.isNone_none, if_true] at hend
      rw [er] at hend
      refine ⟨_, _, hend, .inl ⟨rfl, hB_put k4, fun y hy => ?_⟩⟩
      rcases List.mem_append.1 hy with hy | hy
      · exact k2 y hy
      · rw [List.mem_singleton] at hy
        subst hy
        exact hgd
    | false =>
      gi_wp2_with (gi_at_call 179; refine (CallsIn.inRound (w1.heap.size + 1) (callsIn_wide.2 hon)).mono ?_; rintro e w3 ⟨rfl, h3⟩; have k4 := k3.of_self h3; have d1 := (hB_cell k4).1; have d2 := (hB_cell k4).2.1)
      have k5 := hB_res (X : Int) k4
      have hend := run_endRound (P := Tryz.prog) (some .ret) (hB_loop k5)
      have hv : firstOn offs (upL gs g0) = (X : Int) := by rw [← hss, firstOn_off k2, upL_in hw hx1 hx2, firstOn, hgd]
      have k6 := hB_put (rec' := rd) k5
      have er2 : ({ ({ rec with state := .busy } : Loop) with state := .done, pending := some .ret } : Loop) = rd := hrd.symm
      simp only [Option.isNone_some, Bool.false_eq_true, if_false] at hend
      rw [er2] at hend
      refine ⟨_, _, hend, .inr ⟨rfl, (X : Int), ?_⟩⟩
      rw [hv]
      rw [hrd] at k6 ⊢
      exact k6
  · rintro e W2 ⟨⟨v0, rfl⟩, ⟨g', k1, k2⟩ | ⟨g', v, k1, k2⟩⟩
    · have hend := run_endLoop (P := Tryz.prog) (hB_loop k1) (by rw [hrec]; simp)
      have k3 := hB_put (rec' := { rec with state := .exhausted }) k1
      rw [show rec.pending = none by rw [hrec]] at hend k3
      refine ⟨none, _, hend, ?_⟩
      obtain ⟨W3, hW3⟩ : ∃ W3, W2.putObj (w1.heap.size + 1) (.loop { rec with state := .exhausted, pending := none }) = W3 := ⟨_, rfl⟩
      rw [hW3] at k3 ⊢
      clear hW3 hend k1 hOD hO1 hO hup h
      have d1 := (hB_cell k3).1; have d2 := (hB_cell k3).2.1
      have hz : firstOn offs (upL gs g0) = 0 := by
        have := firstOn_off (l := []) k2
        rw [List.append_nil] at this
        rw [this]
        rfl
      gi_wp2
      have k5 := hB_res 0 k3
      have k6 : Own W (hB b2 b1 T G ct cg g' (w1.heap.size + 1) { rec with state := .exhausted, pending := none } w1.heap.size (w.heap.size + 1) w.heap.size (firstOn offs (upL gs g0)) m) (W3.setCell ⟨w.heap.size + 1, 0, none⟩ (.int .i64 0)) := by rw [hz]; exact k5
      exact heir_end k6 rfl
    · have hend := run_endLoop (P := Tryz.prog) (hB_loop k1) (by rw [hrd]; simp)
      have k3 := hB_put (rec' := { rd with state := .exhausted }) k1
      rw [show rd.pending = some .ret by rw [hrd]] at hend k3
      refine ⟨some .ret, _, hend, ?_⟩
      obtain ⟨W3, hW3⟩ : ∃ W3, W2.putObj (w1.heap.size + 1) (.loop { rd with state := .exhausted, pending := some .ret }) = W3 := ⟨_, rfl⟩
      rw [hW3] at k3 ⊢
      clear hW3 hend k1 hOD hO1 hO hup h
      gi_wp2
      have k6 : Own W (hB b2 b1 T G ct cg g' (w1.heap.size + 1) { rd with state := .exhausted, pending := some .ret } w1.heap.size (w.heap.size + 1) w.heap.size (firstOn offs (upL gs g0)) m) W3 := by rw [k2]; exact k3
      exact heir_end k6 rfl
end
theorem offsAt_get {cs : T AV} : ∀ {n i : Nat} {L : List Bool}, offsAt cs i n = some L → L.length = n ∧ ∀ j p, L[j]? = some p → cs.get (i + j * 3 + 2) = some (.bool p)
  | 0, i, L, h => by
    simp only [offsAt, Option.some.injEq] at h
    subst h
    exact ⟨rfl, fun j p hp => by simp at hp⟩
  | n + 1, i, L, h => by
    unfold offsAt at h
    split at h <;> first | (cases h; done) | skip
    rename_i a ha
    split at h <;> first | (cases h; done) | skip
    rename_i l hl
    simp only [Option.some.injEq] at h
    subst h
    obtain ⟨h1, h2⟩ := offsAt_get hl
    refine ⟨by simp [h1], fun j p hp => ?_⟩
    cases j with
    | zero =>
      simp only [List.getElem?_cons_zero, Option.some.injEq] at hp
      subst hp
      simpa using ha
    | succ j =>
      have q1 := h2 j p (by simpa using hp)
      have e : Nat.add i 3 + j * 3 + 2 = i + (j + 1) * 3 + 2 := by show i + 3 + j * 3 + 2 = _; omega
      rw [e] at q1
      exact q1
theorem fn_heir : FnOk Tryz.prog 116 := ⟨Tryz.f116, _, Tryz.func116, by kernel_rfl, rfl⟩
section
variable [Nums]
theorem spHeir_sound : CallS Tryz.prog spHeir := fun f args h v h' he => by
  unfold spHeir at he
  split at he <;> first | (cases he; done) | skip
  rename_i hf
  have hf := Nat.eq_of_beq_eq_true hf
  subst hf
  split at he <;> first | (cases he; done) | skip
  rename_i t g
  split at he <;> first | (cases he; done) | skip
  rename_i gt cg gs ht
  split at he <;> first | (cases he; done) | skip
  rename_i hin
  split at he <;> first | (cases he; done) | skip
  rename_i offs hoffs
  simp only [Option.some.injEq, Prod.mk.injEq] at he
  obtain ⟨rfl, rfl⟩ := he
  unfold inB at hin
  rw [Bool.and_eq_true] at hin
  have hg1 := Nat.le_of_ble_eq_true hin.1
  have hg2 := Nat.le_of_ble_eq_true hin.2
  refine ⟨fn_heir, fun ρ w args' hH ha => ?_⟩
  obtain ⟨y, ys, hy, hp, hys⟩ := ha.uncons
  obtain ⟨y2, hy2, hp2⟩ := hys.one
  unfold VR at hp hp2
  obtain ⟨b, s, hb, rfl⟩ := hp
  subst hp2
  have hargs : args' = #[.pointer (some ⟨b, 0, none⟩), .int .i64 (Int.ofNat g)] := by
    apply Array.ext'
    rw [hy, hy2]
  subst hargs
  obtain ⟨G, c, ct, ca, q1, q2, q3, q4, q5, q6, q7, q8, q9, q10⟩ := treeAt_ok ht hH hb
  obtain ⟨m, hm, hall⟩ := own_all w [(b, .cells ct 152), (G, .cells ca 149)] (fun q hq => by
    simp only [List.mem_cons, List.not_mem_nil, or_false] at hq
    rcases hq with rfl | rfl
    · exact q1
    · exact q2) (by simp [q3])
  obtain ⟨hol, hoat⟩ := offsAt_get hoffs
  refine (callsIn_wide.1 (heir_in (g0 := Int.ofNat g) (offs := offs) q5 q6 q7 q8 (by show (1 : Int) ≤ (g : Int); omega) (by show (g : Int) ≤ _; omega) q4 q9 hol (fun i bv hbv => by
    have h1 := hoat i bv hbv
    rw [Nat.zero_add] at h1
    obtain ⟨y, k1, k2⟩ := q10 _ _ h1
    unfold VR at k2
    subst k2
    exact k1) hm)).mono ?_
  rintro e w' ⟨rfl, hO⟩
  obtain ⟨hbl, -⟩ := own_all_back (n := []) hall hO
  exact ⟨ρ, _, rfl, by unfold VR; rfl, Stp.left hH hbl⟩
end
end Go.Proofs.YtfgomgodfcdijaaGreatDoor.Ex
