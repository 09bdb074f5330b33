/-
  wainscotlaw07.step answers true, and both stand alike behind it.
-/
import Derived.Test.YtpmnababdjdniaaNearBoth
import Derived.Test.YtpmnababdjdniaaEqInts
import Derived.Test.YtpmnababdjdniaaBring
namespace Go.Proofs.Ytpmnababdjdniaa.nearPlays
open Go.RowKit
attribute [local go_sem ↓] Go.wp_at_zero Go.wp_at_succ

/-- both stand alike -/
def Both (W : World) (m : List (Nat × Obj)) (T1 T2 : TypeId) (b bl c cl : Nat) (lim : Int) (n : Nat) (w : World) : Prop :=
  ∃ X L1 L2, X.length = n ∧ XsAre lim L1 X ∧ XsAre lim L2 X ∧ Own W (nrBlocks T1 b bl lim L1 ++ (nrBlocks T2 c cl lim L2 ++ m)) w
theorem nPut_len (X : List (List Int)) (lim cpu p : Int) : (nPut X lim cpu p).2.length = X.length := by
  unfold nPut
  (repeat' split) <;> simp
theorem nTake_len (X : List (List Int)) (cpu : Int) : (nTake X cpu).2.length = X.length := by
  unfold nTake
  (repeat' split) <;> simp
theorem nDrain_len (X : List (List Int)) (cpu : Int) : (nDrain X cpu).2.length = X.length := by
  unfold nDrain
  (repeat' split) <;> simp
theorem nPut_out (X : List (List Int)) (lim cpu p : Int) {L : List NL} (h : XsAre lim L X) : (nPut X lim cpu p).1.1.length ≤ 66 := by
  unfold nPut
  split
  · simp
  · rename_i xs hx
    obtain ⟨i, x, rfl, hx', rfl⟩ := h.at_some hx
    have := (h.1.at_ hx').2
    (repeat' split) <;> simp <;> omega
theorem nDrain_out (X : List (List Int)) (cpu : Int) {L : List NL} {lim : Int} (h : XsAre lim L X) : (nDrain X cpu).1.length ≤ 64 := by
  unfold nDrain
  split
  · simp
  · rename_i xs hx
    obtain ⟨i, x, rfl, hx', rfl⟩ := h.at_some hx
    exact (h.1.at_ hx').2

section
variable {T1 T2 : TypeId} {W : World} {m : List (Nat × Obj)} {w : World} {b bl c cl : Nat} {lim : Int} {L1 L2 : List NL} {X : List (List Int)}
theorem putPerm {α : Type} (A B C D E : List α) : (A ++ (B ++ (C ++ (D ++ E)))).Perm (C ++ (A ++ (D ++ (B ++ E)))) := by
  have h1 : (A ++ (B ++ (C ++ (D ++ E)))).Perm (A ++ (C ++ (B ++ (D ++ E)))) := (perm_swap B C _).append_left A
  have h2 : (A ++ (C ++ (B ++ (D ++ E)))).Perm (C ++ (A ++ (B ++ (D ++ E)))) := perm_swap A C _
  exact h1.trans (h2.trans (((perm_swap B D E).append_left A).append_left C))
theorem putSub {α : Type} (A B C D E : List α) (x : α) : (A ++ (C ++ (D ++ E))).Sublist (A ++ (B ++ (C ++ (D ++ x :: E)))) :=
  (List.Sublist.refl A).append (((List.Sublist.refl C).append ((List.Sublist.refl D).append (List.sublist_cons_self x E))).trans (List.sublist_append_right B _))
/-- a run of -1 is stored into an owned slice -/
def Minus (W : World) (m : List (Nat × Obj)) (v : Value) (n : Nat) (w : World) : Prop := ∃ l bs, l.length = n ∧ IntsOwn false v l bs ∧ Own W (bs ++ m) w

set_option maxRecDepth 100000 in
set_option maxHeartbeats 1000000 in
theorem step_spec (h : Own W (nrBlocks T1 b bl lim L1 ++ (nrBlocks T2 c cl lim L2 ++ m)) w) (o1 : XsAre lim L1 X) (o2 : XsAre lim L2 X) (hX : 1 ≤ X.length) (k cpu p : Int) (xk : (Lit.int .i64 k).wf = true) :
    Calls Try.prog 25 #[.pointer (some ⟨b, 0, none⟩), .pointer (some ⟨c, 0, none⟩), .agg #[.int .i64 k, .int .i64 cpu, .int .i64 p]] w fun e w' => e = .returned (.bool true) ∧ Both W m T1 T2 b bl c cl lim X.length w' := by
  have bk := emod_bd k 4 (by omega)
  have hL1 : 1 ≤ L1.length := by have := congrArg List.length o1.2; simp at this; omega
  have h0 := h.new2 (.cells #[.int .i64 k, .int .i64 cpu, .int .i64 p] 59)
  generalize hB : w.heap.size = B at h0
  go_enter Try.func25, Try.ntmps25
  go_wp2_with (first | (go_at_call 19; refine (bring_spec k 4 (by omega) (by omega) xk _).mono ?_; rintro e w1 ⟨rfl, rfl⟩) | fail)
  · refine (nput_spec h0 o1 hL1 cpu p).mono ?_
    rintro e w1 ⟨v, bs, L1', rfl, hv, o1', h1⟩
    have q1 := h1.dropL.dropL.dropL.cell List.mem_cons_self 1; have q2 := h1.dropL.dropL.dropL.cell List.mem_cons_self 2; simp at q1 q2
    have hout := nPut_out X lim cpu p o1
    have hlen := nPut_len X lim cpu p
    obtain ⟨R, R1⟩ : ∃ R, nPut X lim cpu p = R := ⟨_, rfl⟩
    rw [R1] at hv o1' hout hlen
    simp only [R1]
    go_wp2_with fail
    refine (rput_spec h1.front3 o2 cpu p).mono ?_
    rintro e w2 ⟨v2, bs2, L2', rfl, hv2, o2', h2⟩
    rw [R1] at hv2 o2'
    simp only [R1]
    have h2' : Own W (bs ++ (bs2 ++ (nrBlocks T1 b bl lim L1' ++ (nrBlocks T2 c cl lim L2' ++ (B, .cells #[.int .i64 k, .int .i64 cpu, .int .i64 p] 59) :: m)))) w2 := h2.perm (putPerm _ _ _ _ _)
    obtain ⟨A1, c1, rfl, _, _⟩ := hv.slice
    obtain ⟨A2, c2, rfl, _, _⟩ := hv2.slice
    clear h1 h2 h0 h
    go_wp2_with fail
    refine (eqInts_spec (hv.src h2') (hv2.src h2'.swap) (by omega) (by omega)).mono ?_
    rintro e w3 ⟨rfl, nd, rfl⟩
    have h3 := (h2'.sub (putSub _ _ _ _ _ _)).drewN nd
    generalize w2.drewN nd = w3 at h3 ⊢
    clear h2' hv2
    go_wp2_with fail
    go_loopw [11] (fun i wr => ∃ (j : Nat) (l : List Int) (bs : List (Nat × Obj)), j ≤ R.1.1.length ∧ i = .int .i64 j ∧ l.length = R.1.1.length ∧ IntsOwn false (.slice A1 R.1.1.length c1) l bs ∧ Own W (bs ++ (nrBlocks T1 b bl lim L1' ++ (nrBlocks T2 c cl lim L2' ++ m))) wr) (fun i _ => (R.1.1.length - intOf i).toNat)
    case atStart => exact ⟨0, _, _, by omega, rfl, rfl, hv, h3⟩
    case round =>
      obtain ⟨j, l, bs, hj, rfl, hl, hs, hr⟩ := hrel
      by_cases hlt : j < R.1.1.length
      · obtain ⟨g, cap, cur, he, _⟩ := hs.form (by omega)
        rw [hl] at he
        cases he
        have qj := ints_cell hs hr (by rw [hl]) (List.getElem?_eq_getElem (show j < l.length by omega))
        have j0 : (0 : Int) ≤ j := by omega
        have j1 : (j : Int) < R.1.1.length := by omega
        have hfz := SlO.free hs hr (by rw [hl]) j
        have hw : IntKind.i64.wrap ((j : Int) + 1) = ((j + 1 : Nat) : Int) := by rw [IntWalk.i64_in] <;> omega
        obtain ⟨bs', hs', hr'⟩ := ints_store hs hr (by rw [hl]) (show j < l.length by omega) (-1)
        go_wp2_with fail
        go_roundw
        case rel => exact ⟨j + 1, _, bs', by omega, rfl, by simpa using hl, hs', hr'⟩
        case measure => simp [intOf]; omega
      · have hj' : j = R.1.1.length := by omega
        subst hj'
        go_wp2_with fail
        go_ret
        exact ⟨rfl, _, L1', L2', hlen, o1', o2', hr.dropL⟩
  · refine (ntake_spec h0 o1 cpu).mono ?_
    rintro e w1 ⟨L1', rfl, o1', h1⟩
    have q1 := h1.dropL.dropL.cell List.mem_cons_self 1; simp at q1
    go_wp2_with fail
    refine (rtake_spec h1.swap o2 cpu).mono ?_
    rintro e w2 ⟨L2', rfl, o2', h2⟩
    go_wp2_with fail
    go_ret
    exact ⟨rfl, _, L1', L2', nTake_len X cpu, o1', o2', h2.swap.drop2⟩
  · have q1 := h0.dropL.dropL.cell List.mem_cons_self 1; simp at q1
    have hout := nDrain_out X cpu o1
    have hlen := nDrain_len X cpu
    obtain ⟨R, R1⟩ : ∃ R, nDrain X cpu = R := ⟨_, rfl⟩
    rw [R1] at hout hlen
    go_region_held3 (fun w' => w'.cell? ⟨B, 1, none⟩ = some (.int .i64 cpu)) (first | assumption | go_keep)
      (first | (go_at_call 32; refine (ndrain_spec h0.drew o1 cpu).mono ?_; rintro e w1 ⟨v, bs, L1', rfl, hv, o1', h1⟩; rw [R1] at hv o1'; have q1 := h1.dropL.dropL.dropL.cell List.mem_cons_self 1; simp at q1) |
        (go_at_call 42; refine (rdrain_spec h1.front3 o2 cpu).mono ?_; rintro e w2 ⟨v2, bs2, L2', rfl, hv2, o2', h2⟩; rw [R1] at hv2 o2'; have h2' := h2.perm (putPerm _ _ _ _ _); have q1 := h2'.dropL.dropL.dropL.dropL.cell List.mem_cons_self 1; simp at q1) |
        (go_at_call 27; refine (eqInts_spec (hv.src h2') (hv2.src h2'.swap) (by omega) (by omega)).mono ?_; rintro e w3 ⟨rfl, nd, rfl⟩; have h3 := (h2'.sub (putSub _ _ _ _ _ _)).drewN nd; have q1 := (h2'.drewN nd).dropL.dropL.dropL.dropL.cell List.mem_cons_self 1; simp at q1))
    go_wp2
    go_ret
    exact ⟨by simp, _, L1', L2', hlen, o1', o2', h3.dropL⟩
  · have q2 := h0.dropL.dropL.cell List.mem_cons_self 2; simp at q2
    go_region_held3 (fun w' => w'.cell? ⟨B, 2, none⟩ = some (.int .i64 p)) (first | assumption | go_keep)
      (first | (go_at_call 33; refine (has_spec h0.drew o1.1 p).mono ?_; rintro e w1 ⟨rfl, h1⟩; have q2 := h1.dropL.dropL.cell List.mem_cons_self 2; simp at q2) |
        (go_at_call 43; refine (nref.Has_spec h1.swap o2.1 p).mono ?_; rintro e w2 ⟨rfl, rfl⟩))
    go_wp2
    go_ret
    exact ⟨by simp [o1.has, o2.has], _, L1, L2, rfl, o1, o2, h1.drop2⟩
end
end Go.Proofs.Ytpmnababdjdniaa.nearPlays
