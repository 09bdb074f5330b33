/-
  wainscotlaw07.NearPlays: the walk.
-/
import Derived.Test.YtpmnababdjdniaaNearPlays
import Derived.Test.YtpmnababdjdniaaNearWorks
import Derived.Test.YtpmnababdjdniaaArgs
namespace Go.Proofs.Ytpmnababdjdniaa.nearPlays
open Go.RowKit
set_option maxHeartbeats 1000000 in
theorem walk_bad (cpus lim : Int) (A : Option Addr) (len cap : Nat) (hlen : len ≤ maxLen) (hc : cpus < 1 ∨ 8 < cpus ∨ lim < 0 ∨ 64 < lim) {W w : World} (h : Own W [] w) :
    Calls Try.prog 7 #[.int .i64 cpus, .int .i64 lim, .slice A len cap] w fun e w' => e = .returned (.bool true) ∧ Own W [] w' := by
  unfold maxLen at hlen
  go_enter Try.func7, Try.ntmps7
  go_wp2_with (first | (go_at_call 23; refine (nrNew_bad cpus lim hc _).mono ?_; rintro e w1 ⟨rfl, rfl⟩) | (go_at_call 24; refine (nref.new_bad cpus lim hc _).mono ?_; rintro e w1 ⟨rfl, rfl⟩))
  go_loopw [11] (fun i wr => i = .int .i64 0 ∧ Own W [] wr) (fun _ _ => 0)
  case atStart => exact ⟨rfl, h⟩
  case round =>
    obtain ⟨rfl, hr⟩ := hrel
    go_wp2_with fail
    all_goals
      refine (works07_spec hr).mono ?_
      rintro e w1 ⟨rfl, h1⟩
      go_wp2_with fail
      go_ret
      exact ⟨rfl, h1⟩

theorem nList_le {X : List (List Int)} {lim : Int} {L : List NL} (h : XsAre lim L X) (c : Int) : (nList X c).length ≤ 64 := by
  unfold nList
  cases hx : xAt X c with
  | none => simp
  | some xs =>
    obtain ⟨i, x, rfl, hx', rfl⟩ := h.at_some hx
    exact (h.1.at_ hx').2

set_option maxRecDepth 100000 in
set_option maxHeartbeats 2000000 in
theorem walk_ok (cpus lim : Int) (A : Option Addr) (len cap : Nat) (hlen : len ≤ maxLen) (h1 : 1 ≤ cpus) (h8 : cpus ≤ 8) (l0 : 0 ≤ lim) (l64 : lim ≤ 64) {W w : World} (hA : FlatAt W [some .i64, some .i64, some .i64] A len) (h : Own W [] w) :
    Calls Try.prog 7 #[.int .i64 cpus, .int .i64 lim, .slice A len cap] w fun e w' => e = .returned (.bool true) ∧ Own W [] w' := by
  unfold maxLen at hlen
  go_enter Try.func7, Try.ntmps7
  go_wp2_with fail
  refine (nrNew_ok h cpus lim h1 h8 l0 l64).mono ?_
  rintro e w1 ⟨b, bl, rfl, h1'⟩
  go_wp2_with fail
  refine (nref.new_ok h1' cpus lim h1 h8 l0 l64).mono ?_
  rintro e w2 ⟨c, cl, rfl, h2⟩
  have ok0 := xsNew cpus.toNat (by omega) l0 l64
  have hX0 : 1 ≤ (List.replicate cpus.toNat ([] : List Int)).length := by simp; omega
  generalize List.replicate cpus.toNat ([] : List Int) = X0 at ok0 hX0
  generalize List.replicate cpus.toNat nlNil = L0 at ok0 h2
  go_wp2_with fail
  go_loopw [11] (fun i wr => ∃ k : Nat, k ≤ len ∧ k ≤ 150 ∧ i = .int .i64 k ∧ Both W [] 72 84 b bl c cl lim X0.length wr) (fun i _ => 150 - (intOf i).toNat)
  case atStart => exact ⟨0, by omega, by omega, rfl, X0, L0, L0, rfl, ok0, ok0, h2.swap⟩
  case round =>
    obtain ⟨k, hk, hk1, rfl, X, L1, L2, hX, o1, o2, hr⟩ := hrel
    by_cases hlt : k < len ∧ k < 150
    · obtain ⟨B, o, rfl, hB, hd⟩ := hA (by omega)
      obtain ⟨_, e0, d0, rfl, x0⟩ := hd k hlt.1 0 _ rfl
      obtain ⟨_, e1, d1, rfl, x1⟩ := hd k hlt.1 1 _ rfl
      obtain ⟨_, e2, d2, rfl, x2⟩ := hd k hlt.1 2 _ rfl
      rw [← hr.old (by exact hB)] at e0 e1 e2
      simp only [List.length_cons, List.length_nil, Nat.zero_add, Nat.reduceAdd, Nat.add_zero] at e0 e1 e2
      clear hd hA
      go_wp2_with fail
      refine (step_spec hr o1 o2 (by omega) d0 d1 d2 x0).mono ?_
      rintro e w3 ⟨rfl, X', L1', L2', hX', o1', o2', h3⟩
      rw [hX] at hX'
      clear o1 o2 hX h2 h1' h
      go_wp2_with fail
      obtain ⟨wo, rfl⟩ : ∃ wo : World, wo = wr := ⟨_, rfl⟩
      go_loopw [12] (fun i wr => ∃ z : Int, -1 ≤ z ∧ z ≤ 9 ∧ i = .int .i64 z ∧ Own W (nrBlocks 72 b bl lim L1' ++ (nrBlocks 84 c cl lim L2' ++ [])) wr) (fun i _ => (9 - intOf i).toNat)
      case atStart => exact ⟨-1, by omega, by omega, rfl, h3⟩
      case round =>
        obtain ⟨z, hz, hz1, rfl, hr⟩ := hrel
        clear e0 e1 e2 h3
        by_cases hlz : z < 9
        · go_wp2_with fail
          refine (nlist_spec hr o1' z).mono ?_
          rintro e w4 ⟨v4, b4, rfl, hv4, h4⟩
          have hle := nList_le o1' z
          go_wp2_with fail
          refine (rlist_spec h4.front3 o2' z).mono ?_
          rintro e w5 ⟨v5, b5, rfl, hv5, h5⟩
          have h5' := h5.perm (putPerm _ _ _ _ _)
          generalize nList X' z = xs at hv4 hv5 hle
          obtain ⟨A4, c4, rfl, _, _⟩ := hv4.slice
          obtain ⟨A5, c5, rfl, _, _⟩ := hv5.slice
          go_wp2_with fail
          refine (eqInts_spec (hv4.src h5') (hv5.src h5'.swap) (by omega) (by omega)).mono ?_
          rintro e w6 ⟨rfl, nd, rfl⟩
          have h6 := (h5'.dropIn).drewN nd
          generalize w5.drewN nd = w6 at h6 ⊢
          clear h5 h5' h4 hr hv5
          go_wp2_with fail
          obtain ⟨wo2, rfl⟩ : ∃ wo2 : World, wo2 = wr := ⟨_, rfl⟩
          go_loopw [14] (fun i wr => ∃ (j : Nat) (l : List Int) (bs : List (Nat × Obj)), j ≤ xs.length ∧ i = .int .i64 j ∧ l.length = xs.length ∧ IntsOwn false (.slice A4 xs.length c4) l bs ∧ Own W (bs ++ (nrBlocks 72 b bl lim L1' ++ (nrBlocks 84 c cl lim L2' ++ []))) wr) (fun i _ => (xs.length - intOf i).toNat)
          case atStart => exact ⟨0, _, _, by omega, rfl, rfl, hv4.weak, h6⟩
          case round =>
            obtain ⟨j, l, bs, hj, rfl, hl, hs, hr⟩ := hrel
            by_cases hlt : j < xs.length
            · obtain ⟨g, cap, cur, he, _⟩ := hs.form (by omega)
              rw [hl] at he
              cases he
              have qj := ints_cell hs hr (by rw [hl]) (List.getElem?_eq_getElem (show j < l.length by omega))
              have j0 : (0 : Int) ≤ j := by omega
              have j1 : (j : Int) < xs.length := by omega
              have hfz := SlO.free hs hr (by rw [hl]) j
              have hw : IntKind.i64.wrap ((j : Int) + 1) = ((j + 1 : Nat) : Int) := by rw [IntWalk.i64_in] <;> omega
              obtain ⟨bs', hs', hr'⟩ := ints_store hs hr (by rw [hl]) (show j < l.length by omega) (-1)
              go_wp2_with fail
              go_roundw
              case rel => exact ⟨j + 1, _, bs', by omega, rfl, by simpa using hl, hs', hr'⟩
              case measure => simp [intOf]; omega
            · have hj' : j = xs.length := by omega
              subst hj'
              go_wp2_with fail
              go_roundw
              case rel => exact ⟨z + 1, by omega, by omega, rfl, hr.dropL⟩
              case measure => simp [intOf]; omega
        · go_wp2_with fail
          go_roundw
          case rel => exact ⟨k + 1, by omega, by omega, by go_num, X', L1', L2', hX', o1', o2', hr⟩
          case measure => simp [intOf]; omega
    · clear hA
      have hor : len ≤ k ∨ 150 ≤ k := by omega
      clear hlt
      rcases hor with hlt | hlt
      all_goals go_wp2_with fail
      all_goals
        refine (works07_spec hr.dropL.dropL).mono ?_
        rintro e w3 ⟨rfl, h3⟩
        go_wp2_with fail
        go_ret
        exact ⟨rfl, h3⟩
theorem walk {W w : World} (h : Own W [] w) (cpus lim : Int) (A : Option Addr) (len cap : Nat) (hlen : len ≤ maxLen) (hA : FlatAt W [some .i64, some .i64, some .i64] A len) :
    Calls Try.prog 7 #[.int .i64 cpus, .int .i64 lim, .slice A len cap] w fun e w' => e = .returned (.bool true) ∧ Own W [] w' := by
  by_cases hn : cpus < 1 ∨ 8 < cpus ∨ lim < 0 ∨ 64 < lim
  · exact walk_bad cpus lim A len cap hlen hn h
  · exact walk_ok cpus lim A len cap hlen (by omega) (by omega) (by omega) (by omega) hA h
end Go.Proofs.Ytpmnababdjdniaa.nearPlays
