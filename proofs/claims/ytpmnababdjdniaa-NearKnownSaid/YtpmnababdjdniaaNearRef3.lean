/-
  What the functions of wainscotref07 do, on; and both, as one model.
-/
import Derived.Test.YtpmnababdjdniaaNearRef2
namespace Go.Proofs.Ytpmnababdjdniaa.nref
open Go.RowKit
section
variable {T : TypeId} {W : World} {m : List (Nat × Obj)} {w : World} {b bl : Nat} {lim : Int} {L : List NL}
set_option maxHeartbeats 400000 in
theorem take_empty (h : Own W (nrBlocks T b bl lim L ++ m) w) (ok : NrOk lim L) (i : Nat) {x : NL} (hx : L[i]? = some x) (hp : x.xs = []) :
    Calls Try.prog 41 #[.pointer (some ⟨b, 0, none⟩), .int .i64 i] w fun e w' => e = .returned (.tuple #[.int .i64 0, .bool false]) ∧ w = w' := by
  have hi : i < L.length := (List.getElem?_eq_some_iff.1 hx).1
  have hok : IntsOwn true x.v x.xs x.bs := (ok.at_ hx).1
  obtain ⟨A, cap, hv, hnc, hcm⟩ := SlO.slice hok
  have cx := nrCell h hx
  have c0 := nrHead h
  rw [hv, hp] at cx
  simp only [List.length_nil] at cx
  clear hv hok hx hp
  go_enter Try.func41, Try.ntmps41
  go_wp2_with (go_at_call 46; refine (has_in h i hi).mono ?_; rintro e w' ⟨rfl, rfl⟩)
  go_ret2
  exact ⟨rfl, rfl⟩
set_option maxHeartbeats 400000 in
theorem take_out (h : Own W (nrBlocks T b bl lim L ++ m) w) (cpu : Int) (hc : cpu < 0 ∨ L.length ≤ cpu) :
    Calls Try.prog 41 #[.pointer (some ⟨b, 0, none⟩), .int .i64 cpu] w fun e w' => e = .returned (.tuple #[.int .i64 0, .bool false]) ∧ w = w' := by
  go_enter Try.func41, Try.ntmps41
  go_wp2_with (go_at_call 46; refine (has_out h cpu hc).mono ?_; rintro e w' ⟨rfl, rfl⟩)
  go_ret2
  exact ⟨rfl, rfl⟩
set_option maxHeartbeats 400000 in
theorem drain_in (h : Own W (nrBlocks T b bl lim L ++ m) w) (ok : NrOk lim L) (i : Nat) {x : NL} (hx : L[i]? = some x) :
    Calls Try.prog 42 #[.pointer (some ⟨b, 0, none⟩), .int .i64 i] w fun e w' => e = .returned x.v ∧ Own W (x.bs ++ (nrBlocks T b bl lim (L.set i nlNil) ++ m)) w' := by
  have hi : i < L.length := (List.getElem?_eq_some_iff.1 hx).1
  have ho := nrOut h hx
  have cx := nrCell h hx
  have c0 := nrHead h
  have fx := nrFree h i
  have hlt := (nrLt h).2
  have hin : Own W (nrBlocks T b bl lim (L.set i nlNil) ++ (x.bs ++ m)) (w.setCell ⟨bl, i, none⟩ (.slice none 0 0)) := by
    refine nrIn (y := nlNil) hx ?_
    show Own W ([] ++ _) w
    exact ho.perm (perm_swap _ _ _)
  have hok : IntsOwn true x.v x.xs x.bs := (ok.at_ hx).1
  obtain ⟨A, cap, hv, hnc, hcm⟩ := SlO.slice hok
  rw [hv] at cx ⊢
  clear hv hok hx
  go_enter Try.func42, Try.ntmps42
  go_wp2_with (go_at_call 46; refine (has_in h i hi).mono ?_; rintro e w' ⟨rfl, rfl⟩)
  go_ret
  exact ⟨rfl, hin.swap⟩
set_option maxHeartbeats 400000 in
theorem drain_out (h : Own W (nrBlocks T b bl lim L ++ m) w) (cpu : Int) (hc : cpu < 0 ∨ L.length ≤ cpu) :
    Calls Try.prog 42 #[.pointer (some ⟨b, 0, none⟩), .int .i64 cpu] w fun e w' => e = .returned (.slice none 0 0) ∧ w = w' := by
  go_enter Try.func42, Try.ntmps42
  go_wp2_with (go_at_call 46; refine (has_out h cpu hc).mono ?_; rintro e w' ⟨rfl, rfl⟩)
  go_ret
  exact ⟨rfl, rfl⟩
set_option maxHeartbeats 400000 in
theorem list_yes (h : Own W (nrBlocks T b bl lim L ++ m) w) (ok : NrOk lim L) (i : Nat) {x : NL} (hx : L[i]? = some x) :
    Calls Try.prog 28 #[.pointer (some ⟨b, 0, none⟩), .int .i64 i] w fun e w' => ∃ v bs, e = .returned v ∧ IntsOwn true v x.xs bs ∧ Own W (bs ++ (nrBlocks T b bl lim L ++ m)) w' := by
  have hi : i < L.length := (List.getElem?_eq_some_iff.1 hx).1
  have ho := nrOut h hx
  have cx := nrCell h hx
  have c0 := nrHead h
  have hsrc : IntsSrc w x.v x.xs := SlO.src (ok.at_ hx).1 ho
  have hlx := (ok.at_ hx).2
  have hok : IntsOwn true x.v x.xs x.bs := (ok.at_ hx).1
  obtain ⟨A, cap, hv, hnc, hcm⟩ := SlO.slice hok
  rw [hv] at cx hsrc
  clear hv hok hx
  go_enter Try.func28, Try.ntmps28
  go_wp2_with (first | (go_at_call 46; refine (has_in h i hi).mono ?_; rintro e w' ⟨rfl, rfl⟩) | (go_at_call 47; refine (copy_spec h hsrc (by omega)).mono ?_; rintro e w1 ⟨v', bs', rfl, h1, h2⟩))
  go_ret
  exact ⟨v', bs', rfl, h1, h2⟩
set_option maxHeartbeats 400000 in
theorem list_no (h : Own W (nrBlocks T b bl lim L ++ m) w) (cpu : Int) (hc : cpu < 0 ∨ L.length ≤ cpu) :
    Calls Try.prog 28 #[.pointer (some ⟨b, 0, none⟩), .int .i64 cpu] w fun e w' => e = .returned (.slice none 0 0) ∧ w = w' := by
  go_enter Try.func28, Try.ntmps28
  go_wp2_with (go_at_call 46; refine (has_out h cpu hc).mono ?_; rintro e w' ⟨rfl, rfl⟩)
  go_ret
  exact ⟨rfl, rfl⟩
end
set_option maxRecDepth 10000 in
set_option maxHeartbeats 400000 in
theorem new_ok {W : World} {m : List (Nat × Obj)} {w : World} (h : Own W m w) (k lim : Int) (h1 : 1 ≤ k) (h8 : k ≤ 8) (hl0 : 0 ≤ lim) (hl : lim ≤ 64) :
    Calls Try.prog 24 #[.int .i64 k, .int .i64 lim] w fun e w' => ∃ b bl, e = .returned (.tuple #[.pointer (some ⟨b, 0, none⟩), .int .i64 0]) ∧ Own W (nrBlocks 84 b bl lim (List.replicate k.toNat nlNil) ++ m) w' := by
  obtain ⟨n, rfl⟩ := Int.eq_ofNat_of_zero_le (show 0 ≤ k from by omega)
  rw [Int.toNat_natCast]
  obtain ⟨i, hi, hz, hs, hb⟩ := info_get sl_info
  have hmk := fun W => run_make_rowN (P := Try.prog) 70 49 i _ Try.underlying70 hi hz .i64 .i64 n n (Nat.le_refl _) (by rw [hb]; omega) (by omega) W
  rw [hs, madeCells_const _ (.slice none 0 0) _ (by simp [Value.cells]) (by intro j hj; obtain rfl : j = 0 := (by simp [Value.cells] at hj; omega); rfl), Nat.mul_one, ← nil_cells] at hmk
  obtain ⟨cs, hcs⟩ : ∃ cs, cs = ((List.replicate n nlNil).map (·.v)).toArray := ⟨_, rfl⟩
  rw [← hcs] at hmk
  have HC := Lib.hid hcs
  clear hcs
  clear hi hz hs hb
  go_enter Try.func24, Try.ntmps24
  go_wp2_with fail
  go_ret2
  refine ⟨w.heap.size + 1, w.heap.size, rfl, ?_⟩
  have h2 := (h.new (.cells cs 49)).new (.cells #[.slice (some ⟨w.heap.size, 0, none⟩) n n, .int .i64 lim] 84)
  have hfm : (List.replicate n nlNil).flatMap (·.bs) = [] := by rw [List.flatMap_eq_nil_iff]; intro x hx; rw [List.eq_of_mem_replicate hx]; rfl
  unfold nrBlocks
  rw [hfm, List.length_replicate, ← HC.out]
  simpa using h2
set_option maxHeartbeats 400000 in
theorem new_bad (k lim : Int) (hn : k < 1 ∨ 8 < k ∨ lim < 0 ∨ 64 < lim) (w : World) :
    Calls Try.prog 24 #[.int .i64 k, .int .i64 lim] w fun e w' => e = .returned (.tuple #[.pointer none, .int .i64 2]) ∧ w = w' := by
  go_enter Try.func24, Try.ntmps24
  go_wp2
  all_goals first
    | (go_ret2; exact ⟨rfl, rfl⟩)
    | (exfalso; omega)
end Go.Proofs.Ytpmnababdjdniaa.nref
