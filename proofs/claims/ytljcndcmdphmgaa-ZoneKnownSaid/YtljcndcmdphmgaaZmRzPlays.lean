import Derived.Test.YtljcndcmdphmgaaZmRzL
import Derived.Test.YtljcndcmdphmgaaZm10
/-
  wainscotlaw08.ZonePlays answers true: the walk. No condition.
-/
namespace Go.Proofs.Ytljcndcmdphmgaa
open Go.RowKit
attribute [local go_sem ↓] Go.wp_at_zero Go.wp_at_succ
theorem zinv_new (C N : Nat) (n1 : 1 ≤ N) (n2 : N ≤ 1024) : ZInv (freshL N) (List.replicate C []) (fun _ => none) [] N := by
  refine ⟨?_, fun p c h => (by cases h), fun xs hx => ?_⟩
  · have : nearL (List.replicate C []) = [] := by
      unfold nearL
      rw [List.map_eq_nil_iff]
      induction C with
      | zero => rfl
      | succ C ih => rw [List.replicate_succ, List.flatten_cons, ih, List.nil_append]
    rw [this]
    exact cinv_fresh n1 n2
  · rw [List.eq_of_mem_replicate hx]
    simp
theorem zj_new (C N : Nat) (n1 : 1 ≤ N) (n2 : N ≤ 1024) : ZJ (freshL N) (freshL N) (List.replicate C []) (fun _ => none) [] N :=
  ⟨zinv_new C N n1 n2, zinv_new C N n1 n2, rfl, fun x hx => (by simp at hx)⟩
theorem St8.old {W w : World} {m : List (Nat × Obj)} {zb qb N k : Nat} (h : St8 W m zb qb N k w) {a : Addr} (ha : a.block < W.heap.size) : w.cell? a = W.cell? a := by
  obtain ⟨L, M, X, f, out, zs, qs, h1, h2, h3, h4⟩ := h
  exact h4.old ha
namespace zonePlays
set_option maxRecDepth 100000 in
set_option maxHeartbeats 2000000 in
theorem walk_bad {W w : World} {m : List (Nat × Obj)} (h : Own W m w) (cpus pages : Int) (hn : cpus < 1 ∨ 8 < cpus ∨ pages.tmod 200 < 1 ∨ 1024 < pages.tmod 200) (A : Option Addr) (len cap : Nat) :
    Calls Try.prog 9 #[.int .i64 cpus, .int .i64 pages, .slice A len cap] w fun e w' => e = .returned (.bool true) ∧ Own W m w' := by
  obtain ⟨P, hP⟩ : ∃ P, pages.tmod 200 = P := ⟨_, rfl⟩
  rw [hP] at hn
  have HN := Lib.hid hn
  clear hn
  go_enter Try.func9, Try.ntmps9
  go_wp2_with fail
  clear hP
  refine (znew_bad h cpus P HN.out).mono ?_
  rintro e w1 ⟨rfl, h1⟩
  go_wp2_with fail
  refine (qnew_bad h1 cpus P HN.out).mono ?_
  rintro e w2 ⟨rfl, h2⟩
  go_wp2_with fail
  go_loopw [11] (fun iv wr => iv = .int .i64 0 ∧ Own W m wr) (fun _ _ => 0)
  case atStart => exact ⟨rfl, h2⟩
  case round =>
    obtain ⟨rfl, hr⟩ := hrel
    go_wp2_with fail
    all_goals
      refine (law08.works_spec hr).mono ?_
      rintro e w1 ⟨rfl, h1⟩
      go_wp2_with fail
      go_ret
      exact ⟨rfl, h1⟩
set_option maxRecDepth 100000 in
set_option maxHeartbeats 8000000 in
theorem walk_ok {W w : World} {m : List (Nat × Obj)} (h : Own W m w) (C N : Nat) (pages : Int) (hP : pages.tmod 200 = N) (c1 : 1 ≤ C) (c8 : C ≤ 8) (hN1 : 1 ≤ N) (hN : N ≤ 1024) (A : Option Addr) (len cap : Nat) (hlc : len ≤ cap) (hcap : cap ≤ maxLen) (hat : FlatAt W [some .i64, some .i64, some .i64, some .i64] A len) :
    Calls Try.prog 9 #[.int .i64 C, .int .i64 pages, .slice A len cap] w fun e w' => e = .returned (.bool true) ∧ Own W m w' := by
  unfold maxLen at hcap
  have HAT := Lib.hid hat
  have HJ := Lib.hid (zj_new C N hN1 hN)
  clear hat
  go_enter Try.func9, Try.ntmps9
  go_wp2_with fail
  clear hP
  refine (znew_ok h C N c1 c8 hN1 hN).mono ?_
  rintro e w1 ⟨zb, zs, rfl, hz, h1⟩
  have HZ := Lib.hid hz
  clear hz
  go_wp2_with fail
  refine (qnew_ok h1 C N c1 c8 hN1 hN).mono ?_
  rintro e w2 ⟨qb, qs, rfl, hq, h2⟩
  have HQ := Lib.hid hq
  clear hq
  have HS : Hid (St8 W m zb qb N 0 w2) := ⟨_, _, _, _, _, zs, qs, HZ, HQ, HJ, h2.swap⟩
  clear HZ HQ HJ h1 h2 h
  go_wp2_with fail
  go_loopw [11] (fun iv wr => ∃ i : Nat, iv = .int .i64 i ∧ i ≤ len ∧ i ≤ 40 ∧ Hid (St8 W m zb qb N i wr)) (fun iv _ => 40 - (intOf iv).toNat)
  case atStart => exact ⟨0, rfl, by omega, by omega, HS⟩
  case round =>
    clear HS
    obtain ⟨i, rfl, hil, hi40, HS⟩ := hrel
    by_cases hlt : i < len ∧ i < 40
    · obtain ⟨hlt, hl40⟩ := hlt
      obtain ⟨B, o, rfl, hBW, hcs⟩ := HAT.out (by omega)
      obtain ⟨_, d0, x0, rfl, xf0⟩ := hcs i hlt 0 _ rfl
      obtain ⟨_, d1, x1, rfl, xf1⟩ := hcs i hlt 1 _ rfl
      obtain ⟨_, d2, x2, rfl, xf2⟩ := hcs i hlt 2 _ rfl
      obtain ⟨_, d3, x3, rfl, xf3⟩ := hcs i hlt 3 _ rfl
      simp only [List.length_cons, List.length_nil, Nat.reduceAdd, Nat.add_zero, Nat.zero_add] at d0 d1 d2 d3
      have hold := fun (a : Addr) (ha : a.block < W.heap.size) => HS.out.old (a := a) ha
      have d0' := (hold ⟨B, o + i * 4, none⟩ hBW).trans d0
      have d1' := (hold ⟨B, o + i * 4 + 1, none⟩ hBW).trans d1
      have d2' := (hold ⟨B, o + i * 4 + 2, none⟩ hBW).trans d2
      have d3' := (hold ⟨B, o + i * 4 + 3, none⟩ hBW).trans d3
      have hili : (i : Int) < len := by omega
      have hi40i : (i : Int) < 40 := by omega
      have hi0 : (0 : Int) ≤ i := by omega
      clear hcs d0 d1 d2 d3 hold
      go_wp2_with fail
      refine (step8_spec HS.out (by omega) x0 x1 x2 x3 xf0 xf2).mono ?_
      rintro e w3 ⟨rfl, h3⟩
      have H3 := Lib.hid h3
      clear h3 d0' d1' d2' d3'
      go_wp2_with fail
      exact ⟨⟨i + 1, by go_num, by omega, by omega, H3⟩, by simp [intOf]; omega⟩
    · have hnl : (len : Int) ≤ i ∨ ((i : Int) < len ∧ (40 : Int) ≤ i) := by omega
      clear hlt
      obtain ⟨L, M, X, f, out, zs, qs, HZ, HQ, HJ, ho⟩ := HS.out
      have HO := Lib.hid ho
      clear ho HS
      rcases hnl with hnl | ⟨hnl2, hnl⟩
      all_goals
        go_wp2_with fail
        refine (same8_yes HO.out HZ.out HQ.out HJ.out).mono ?_
        rintro e w3 ⟨rfl, h3⟩
        go_wp2_with fail
        refine (law08.works_spec h3.dropL.dropL).mono ?_
        rintro e w4 ⟨rfl, h4⟩
        go_wp2_with fail
        go_ret
        exact ⟨rfl, h4⟩
theorem walk {W w : World} {m : List (Nat × Obj)} (h : Own W m w) (cpus pages : Int) (A : Option Addr) (len cap : Nat) (hlc : len ≤ cap) (hcap : cap ≤ maxLen) (hat : FlatAt W [some .i64, some .i64, some .i64, some .i64] A len) :
    Calls Try.prog 9 #[.int .i64 cpus, .int .i64 pages, .slice A len cap] w fun e w' => e = .returned (.bool true) ∧ Own W m w' := by
  by_cases hn : cpus < 1 ∨ 8 < cpus ∨ pages.tmod 200 < 1 ∨ 1024 < pages.tmod 200
  · exact walk_bad h cpus pages hn A len cap
  · obtain ⟨N, hN⟩ : ∃ N : Nat, pages.tmod 200 = N := ⟨(pages.tmod 200).toNat, by omega⟩
    obtain ⟨C, rfl⟩ : ∃ C : Nat, cpus = C := ⟨cpus.toNat, by omega⟩
    exact walk_ok h C N pages hN (by omega) (by omega) (by omega) (by omega) A len cap hlc hcap hat
end zonePlays
end Go.Proofs.Ytljcndcmdphmgaa
