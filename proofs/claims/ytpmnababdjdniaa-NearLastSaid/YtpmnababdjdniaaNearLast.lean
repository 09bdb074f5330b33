/-
  wainscotlaw07.NearLast answers true, whatever it is given.
-/
import Derived.Test.YtpmnababdjdniaaNearWorks
import Derived.Test.YtpmnababdjdniaaBring
import Derived.Test.YtpmnababdjdniaaArgs
namespace Go.Proofs.Ytpmnababdjdniaa.nearLast
open Go.RowKit

theorem put1 (xs : List Int) (lim p : Int) (h0 : 0 ≤ p) (h1 : p < 1024) :
    (p ∈ xs ∧ nPut [xs] lim 0 p = (([], 60), [xs])) ∨ (p ∉ xs ∧ nPut [xs] lim 0 p = (((xs ++ [p]).take (nrK lim (xs.length + 1)), 0), [(xs ++ [p]).drop (nrK lim (xs.length + 1))])) := by
  have hx : xAt [xs] 0 = some xs := by simp [xAt]
  have hr : ¬ (p < 0 ∨ 1024 ≤ p) := by omega
  by_cases hp : p ∈ xs
  · exact .inl ⟨hp, by simp [nPut, hx, hr, xHas, hp]⟩
  · exact .inr ⟨hp, by simp [nPut, hx, hr, xHas, hp]⟩
theorem take1 (xs : List Int) (p : Int) : nTake [xs ++ [p]] 0 = ((p, true), [xs]) := by simp [nTake, xAt]
theorem nodup1 {xs : List Int} (h : xs.Nodup) {p : Int} (hp : p ∉ xs) : (xs ++ [p]).Nodup := by
  rw [List.nodup_append]
  exact ⟨h, by simp, fun a ha b hb => by simp at hb; subst hb; exact fun he => hp (he ▸ ha)⟩

set_option maxRecDepth 100000 in
set_option maxHeartbeats 1000000 in
theorem walk {W w : World} (h : Own W [] w) (lim : Int) (xl : (Lit.int .i64 lim).wf = true) (A : Option Addr) (len cap : Nat) (hlen : len ≤ maxLen) (hA : FlatAt W [some .i64] A len) :
    Calls Try.prog 9 #[.int .i64 lim, .slice A len cap] w fun e w' => e = .returned (.bool true) ∧ Own W [] w' := by
  unfold maxLen at hlen
  have bl0 := emod_bd lim 65 (by omega)
  go_enter Try.func9, Try.ntmps9
  go_wp2_with fail
  refine (bring_spec lim 65 (by omega) (by omega) xl _).mono ?_
  rintro e w1 ⟨rfl, rfl⟩
  generalize lim % 65 = lim at bl0 ⊢
  go_wp2_with fail
  refine (nrNew_ok h 1 lim (by omega) (by omega) (by omega) (by omega)).mono ?_
  rintro e w1 ⟨b, bl, rfl, h1⟩
  have ok0 : XsAre lim (List.replicate (1 : Int).toNat nlNil) [[]] := xsNew 1 (by omega) (by omega) (by omega)
  generalize List.replicate (1 : Int).toNat nlNil = L0 at ok0 h1
  go_wp2_with fail
  go_loopw [7] (fun i wr => ∃ (k : Nat) (xs : List Int) (L : List NL), k ≤ len ∧ k ≤ 100 ∧ i = .int .i64 k ∧ xs.Nodup ∧ XsAre lim L [xs] ∧ Own W (nrBlocks 72 b bl lim L ++ []) wr) (fun i _ => 100 - (intOf i).toNat)
  case atStart => exact ⟨0, [], L0, by omega, by omega, rfl, by simp, ok0, h1⟩
  case round =>
    obtain ⟨k, xs, L, hk, hk1, rfl, hnd, ok, hr⟩ := hrel
    by_cases hlt : k < len ∧ k < 100
    · obtain ⟨B, o, rfl, hB, hd⟩ := hA (by omega)
      obtain ⟨_, e0, d0, rfl, x0⟩ := hd k hlt.1 0 _ rfl
      rw [← hr.old (by exact hB)] at e0
      simp only [List.length_cons, List.length_nil, Nat.zero_add, Nat.reduceAdd, Nat.add_zero, Nat.mul_one, Nat.one_mul] at e0
      clear hd hA h h1
      have bp := emod_bd d0 1024 (by omega)
      go_wp2_with fail
      refine (bring_spec d0 1024 (by omega) (by omega) x0 _).mono ?_
      rintro e w3 ⟨rfl, rfl⟩
      generalize d0 % 1024 = p at bp ⊢
      rcases put1 xs lim p bp.1 bp.2 with ⟨hp, he⟩ | ⟨hp, he⟩
      · go_wp2_with fail
        refine (nput_at hr ok (by simp) 0 p he).mono ?_
        rintro e w4 ⟨A4, c4, b4, L4, rfl, -, o4, h4⟩
        go_wp2_with fail
        go_roundw
        case rel => exact ⟨k + 1, xs, L4, by omega, by omega, by go_num, hnd, o4, h4.dropL⟩
        case measure => simp [intOf]; omega
      · by_cases hz : ((xs ++ [p]).take (nrK lim (xs.length + 1))).length = 0
        · have hk0 : nrK lim (xs.length + 1) = 0 := by rw [List.length_take] at hz; simp at hz; omega
          have ht0 : (xs ++ [p]).take (nrK lim (xs.length + 1)) = [] := by rw [hk0]; rfl
          have hd0 : (xs ++ [p]).drop (nrK lim (xs.length + 1)) = xs ++ [p] := by rw [hk0]; rfl
          rw [ht0, hd0] at he
          clear hz hk0 ht0 hd0
          have hx0 : xHas [xs] p = false := by simp [xHas, hp]
          have HE := Lib.hid he
          have hnd' := nodup1 hnd hp
          clear he hp
          go_wp2_with fail
          refine (nput_at hr ok (by simp) 0 p HE.out).mono ?_
          rintro e w4 ⟨A4, c4, b4, L4, rfl, -, o4, h4⟩
          go_wp2_with fail
          refine (ntake_at h4.dropL o4 0 (take1 xs p)).mono ?_
          rintro e w5 ⟨L5, rfl, o5, h5⟩
          go_wp2_with fail
          refine (nhas_at h5 o5 p hx0).mono ?_
          rintro e w6 ⟨rfl, h6⟩
          go_wp2_with fail
          refine (nput_at h6 o5 (by simp) 0 p HE.out).mono ?_
          rintro e w7 ⟨A7, c7, b7, L7, rfl, -, o7, h7⟩
          go_wp2_with fail
          go_roundw
          case rel => exact ⟨k + 1, xs ++ [p], L7, by omega, by omega, by go_num, hnd', o7, h7.dropL⟩
          case measure => simp [intOf]; omega
        · have hnd' : ((xs ++ [p]).drop (nrK lim (xs.length + 1))).Nodup := (nodup1 hnd hp).sublist (List.drop_sublist _ _)
          generalize (xs ++ [p]).drop (nrK lim (xs.length + 1)) = ys at he hnd'
          generalize (xs ++ [p]).take (nrK lim (xs.length + 1)) = zs at he hz
          have hz' : (0 : Int) < zs.length := by omega
          go_wp2_with fail
          refine (nput_at hr ok (by simp) 0 p he).mono ?_
          rintro e w4 ⟨A4, c4, b4, L4, rfl, -, o4, h4⟩
          go_wp2_with fail
          go_roundw
          case rel => exact ⟨k + 1, ys, L4, by omega, by omega, by go_num, hnd', o4, h4.dropL⟩
          case measure => simp [intOf]; omega
    · clear hA
      have hor : len ≤ k ∨ 100 ≤ k := by omega
      clear hlt
      rcases hor with hlt | hlt
      all_goals go_wp2_with fail
      all_goals
        refine (works07_spec hr.dropL).mono ?_
        rintro e w3 ⟨rfl, h3⟩
        go_wp2_with fail
        go_ret
        exact ⟨rfl, h3⟩
end Go.Proofs.Ytpmnababdjdniaa.nearLast
