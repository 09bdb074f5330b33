/-
  What the methods of near.Near do, on: Has, Take, Drain, List, New.
-/
import Derived.Test.YtpmnababdjdniaaNear
namespace Go.Proofs.Ytpmnababdjdniaa
open Go.RowKit
section
variable {T : TypeId} {W : World} {m : List (Nat × Obj)} {w : World} {b bl : Nat} {lim : Int} {L : List NL}

/-- which list holds a page; -1: none -/
def nrIdx (L : List NL) (n : Int) : Int := match L.findIdx? (fun x => decide (n ∈ x.xs)) with | some i => i | none => -1
def nrHas (L : List NL) (n : Int) : Bool := L.any fun x => decide (n ∈ x.xs)
theorem nrIdx_yes {n : Int} {k : Nat} {x : NL} (hk : L[k]? = some x) (hn : n ∈ x.xs) (h : ∀ j, j < k → ∀ y, L[j]? = some y → n ∉ y.xs) : nrIdx L n = k := by
  have : L.findIdx? (fun x => decide (n ∈ x.xs)) = some k := by
    rw [List.findIdx?_eq_some_iff_getElem]
    obtain ⟨hlt, he⟩ := List.getElem?_eq_some_iff.1 hk
    refine ⟨hlt, by simp [he, hn], fun j hj => ?_⟩
    simpa using h j hj _ (List.getElem?_eq_getElem (by omega))
  simp [nrIdx, this]
theorem nrIdx_no {n : Int} (h : ∀ j, j < L.length → ∀ y, L[j]? = some y → n ∉ y.xs) : nrIdx L n = -1 := by
  have : L.findIdx? (fun x => decide (n ∈ x.xs)) = none := by
    rw [List.findIdx?_eq_none_iff]
    intro x hx
    obtain ⟨j, hj, rfl⟩ := List.getElem_of_mem hx
    simpa using h j hj _ (List.getElem?_eq_getElem hj)
  simp [nrIdx, this]
theorem nrIdx_has (L : List NL) (n : Int) : decide (0 ≤ nrIdx L n) = nrHas L n := by
  unfold nrIdx nrHas
  cases h : L.findIdx? (fun x => decide (n ∈ x.xs)) with
  | none =>
    rw [List.findIdx?_eq_none_iff] at h
    have : (L.any fun x => decide (n ∈ x.xs)) = false := by
      rw [List.any_eq_false]; intro x hx; simpa using h x hx
    rw [this]; rfl
  | some i =>
    rw [List.findIdx?_eq_some_iff_getElem] at h
    obtain ⟨hlt, he, _⟩ := h
    have : (L.any fun x => decide (n ∈ x.xs)) = true := by
      rw [List.any_eq_true]; exact ⟨_, List.getElem_mem hlt, he⟩
    rw [this]; simp

set_option maxHeartbeats 400000 in
theorem indexFunc_spec (h : Own W (nrBlocks T b bl lim L ++ m) w) (ok : NrOk lim L) {p : Nat} {n : Int} (hp : w.cell? ⟨p, 0, none⟩ = some (.int .i64 n)) :
    Calls Try.prog 52 #[.slice (some ⟨bl, 0, none⟩) L.length L.length, .func (.func 49) #[] #[.pointer (some ⟨p, 0, none⟩)]] w fun e w' => e = .returned (.int .i64 (nrIdx L n)) ∧ w = w' := by
  have hl8 := ok.1
  go_enter Try.func52, Try.ntmps52
  go_wp2_with fail
  go_loop [8] (fun k => ∃ i : Nat, i ≤ L.length ∧ k = .int .i64 i ∧ ∀ j, j < i → ∀ y, L[j]? = some y → n ∉ y.xs) (fun k => L.length - (intOf k).toNat)
  case atStart => exact ⟨0, Nat.zero_le _, rfl, fun j hj => absurd hj (by omega)⟩
  case round =>
    obtain ⟨i, hi, rfl, hno⟩ := hrel
    have HN := Lib.hid hno
    clear hno
    by_cases hlt : i < L.length
    · obtain ⟨x, hx⟩ : ∃ x, L[i]? = some x := ⟨_, List.getElem?_eq_getElem hlt⟩
      have cx := nrCell h hx
      have hsrc : IntsSrc w x.v x.xs := SlO.src (ok.at_ hx).1 (nrOut h hx)
      have hlx := (ok.at_ hx).2
      have HX := Lib.hid hx
      clear hx
      cases hin : decide (n ∈ x.xs) with
      | true =>
        go_wp2_with (go_at_call 49; refine (has1_spec hp hsrc (by omega)).mono ?_; rintro e w' ⟨rfl, rfl⟩; rw [hin])
        go_ret
        exact ⟨by rw [nrIdx_yes HX.out (by simpa using hin) HN.out]; rfl, rfl⟩
      | false =>
        go_wp2_with (go_at_call 49; refine (has1_spec hp hsrc (by omega)).mono ?_; rintro e w' ⟨rfl, rfl⟩; rw [hin])
        go_round
        case rel =>
          refine ⟨i + 1, by omega, by go_num, fun j hj y hy => ?_⟩
          by_cases hji : j < i
          · exact HN.out j hji y hy
          · obtain rfl : j = i := by omega
            rw [HX.out] at hy
            cases hy
            simpa using hin
        case measure => simp [intOf]; omega
    · obtain rfl : i = L.length := by omega
      go_wp2_with fail
      go_ret
      exact ⟨by rw [nrIdx_no HN.out]; rfl, rfl⟩
set_option maxHeartbeats 400000 in
theorem containsFunc_spec (h : Own W (nrBlocks T b bl lim L ++ m) w) (ok : NrOk lim L) {p : Nat} {n : Int} (hp : w.cell? ⟨p, 0, none⟩ = some (.int .i64 n)) :
    Calls Try.prog 48 #[.slice (some ⟨bl, 0, none⟩) L.length L.length, .func (.func 49) #[] #[.pointer (some ⟨p, 0, none⟩)]] w fun e w' => e = .returned (.bool (nrHas L n)) ∧ w = w' := by
  have HM := Lib.hid (nrIdx_has L n)
  go_enter Try.func48, Try.ntmps48
  go_wp2_with (go_at_call 52; refine (indexFunc_spec h ok hp).mono ?_; rintro e w' ⟨rfl, rfl⟩)
  go_ret
  exact ⟨by rw [← HM.out]; rfl, rfl⟩
set_option maxHeartbeats 400000 in
theorem has_spec (h : Own W (nrBlocks T b bl lim L ++ m) w) (ok : NrOk lim L) (n : Int) :
    Calls Try.prog 33 #[.pointer (some ⟨b, 0, none⟩), .int .i64 n] w fun e w' => e = .returned (.bool (nrHas L n)) ∧ Own W (nrBlocks T b bl lim L ++ m) w' := by
  have c0 := nrHead h
  have hlt := (nrLt h).1
  have hp : (w.alloc (.cells #[.int .i64 n] 3)).cell? ⟨w.heap.size, 0, none⟩ = some (.int .i64 n) := by simp
  go_enter Try.func33, Try.ntmps33
  go_wp2_with (go_at_call 48; refine (containsFunc_spec (h.alloc _) ok hp).mono ?_; rintro e w' ⟨rfl, rfl⟩)
  go_ret
  exact ⟨rfl, h.alloc _⟩

/-- the last one is taken -/
def nrTake (L : List NL) (cpu : Int) : Int × Bool := match nrAt L cpu with | some x => (match x.xs.getLast? with | some p => (p, true) | none => (0, false)) | none => (0, false)

set_option maxHeartbeats 400000 in
theorem take_yes (h : Own W (nrBlocks T b bl lim L ++ m) w) (ok : NrOk lim L) (i : Nat) {x : NL} (hx : L[i]? = some x) {p : Int} {ys : List Int} (hp : x.xs = ys ++ [p]) :
    Calls Try.prog 31 #[.pointer (some ⟨b, 0, none⟩), .int .i64 i] w fun e w' => e = .returned (.tuple #[.int .i64 p, .bool true]) ∧ ∃ y, y.ok ∧ y.xs = ys ∧ Own W (nrBlocks T b bl lim (L.set i y) ++ m) w' := by
  have hi : i < L.length := (List.getElem?_eq_some_iff.1 hx).1
  have hlen : x.xs.length = ys.length + 1 := by rw [hp]; simp
  have hl64 := (ok.at_ hx).2
  have ho := nrOut h hx
  have hok : IntsOwn true x.v x.xs x.bs := (ok.at_ hx).1
  obtain ⟨g, cap, cur, hv, hb, hnc, hcm, hcs, htk⟩ := SlO.form hok (by omega)
  have cx := nrCell h hx
  have fx := nrFree h i
  have cl : w.cell? ⟨g, ys.length, none⟩ = some (.int .i64 p) := SlO.cell hok ho hv (ints_get (by rw [hp]; simp))
  have hsh := SlO.shorter hok hv (k := ys.length) (by omega)
  rw [Nat.mul_one, ints_take, hp, List.take_left] at hsh
  have hin := nrIn (y := ⟨.slice (some ⟨g, 0, none⟩) ys.length cap, ys, x.bs⟩) hx ho
  rw [hv, hlen] at cx
  have HS := Lib.hid hsh
  have HP := Lib.hid hp
  unfold maxLen at hcm
  clear hv hb hcs htk hsh hok hp hx
  go_enter Try.func31, Try.ntmps31
  go_wp2_with (go_at_call 44; refine (list_in h ok.1 i hi).mono ?_; rintro e w' ⟨rfl, rfl⟩)
  go_ret2
  exact ⟨rfl, ⟨.slice (some ⟨g, 0, none⟩) ys.length cap, ys, x.bs⟩, HS.out, rfl, hin⟩
set_option maxHeartbeats 400000 in
theorem take_empty (h : Own W (nrBlocks T b bl lim L ++ m) w) (ok : NrOk lim L) (i : Nat) {x : NL} (hx : L[i]? = some x) (hp : x.xs = []) :
    Calls Try.prog 31 #[.pointer (some ⟨b, 0, none⟩), .int .i64 i] w fun e w' => e = .returned (.tuple #[.int .i64 0, .bool false]) ∧ w = w' := by
  have hi : i < L.length := (List.getElem?_eq_some_iff.1 hx).1
  have hok : IntsOwn true x.v x.xs x.bs := (ok.at_ hx).1
  obtain ⟨A, cap, hv, hnc, hcm⟩ := SlO.slice hok
  have cx := nrCell h hx
  rw [hv, hp] at cx
  simp only [List.length_nil] at cx
  clear hv hok hx hp
  go_enter Try.func31, Try.ntmps31
  go_wp2_with (go_at_call 44; refine (list_in h ok.1 i hi).mono ?_; rintro e w' ⟨rfl, rfl⟩)
  go_ret2
  exact ⟨rfl, rfl⟩
set_option maxHeartbeats 400000 in
theorem take_out (h : Own W (nrBlocks T b bl lim L ++ m) w) (ok : NrOk lim L) (cpu : Int) (hc : cpu < 0 ∨ L.length ≤ cpu) :
    Calls Try.prog 31 #[.pointer (some ⟨b, 0, none⟩), .int .i64 cpu] w fun e w' => e = .returned (.tuple #[.int .i64 0, .bool false]) ∧ w = w' := by
  go_enter Try.func31, Try.ntmps31
  go_wp2_with (go_at_call 44; refine (list_out h ok.1 cpu hc).mono ?_; rintro e w' ⟨rfl, rfl⟩)
  go_ret2
  exact ⟨rfl, rfl⟩

set_option maxHeartbeats 400000 in
theorem drain_in (h : Own W (nrBlocks T b bl lim L ++ m) w) (ok : NrOk lim L) (i : Nat) {x : NL} (hx : L[i]? = some x) :
    Calls Try.prog 32 #[.pointer (some ⟨b, 0, none⟩), .int .i64 i] w fun e w' => e = .returned x.v ∧ Own W (x.bs ++ (nrBlocks T b bl lim (L.set i nlNil) ++ m)) w' := by
  have hi : i < L.length := (List.getElem?_eq_some_iff.1 hx).1
  have ho := nrOut h hx
  have cx := nrCell h hx
  have fx := nrFree h i
  have hlt := (nrLt h).2
  have hin : Own W (nrBlocks T b bl lim (L.set i nlNil) ++ (x.bs ++ m)) (w.setCell ⟨bl, i, none⟩ (.slice none 0 0)) := by
    refine nrIn (y := nlNil) hx ?_
    show Own W ([] ++ _) w
    exact ho.perm (perm_swap _ _ _)
  have hok : IntsOwn true x.v x.xs x.bs := (ok.at_ hx).1
  obtain ⟨A, cap, hv, hnc, hcm⟩ := SlO.slice hok
  rw [hv] at cx ⊢
  clear hv hok hx
  go_enter Try.func32, Try.ntmps32
  go_wp2_with (go_at_call 44; refine (list_in h ok.1 i hi).mono ?_; rintro e w' ⟨rfl, rfl⟩)
  go_ret
  exact ⟨rfl, hin.swap⟩
set_option maxHeartbeats 400000 in
theorem drain_out (h : Own W (nrBlocks T b bl lim L ++ m) w) (ok : NrOk lim L) (cpu : Int) (hc : cpu < 0 ∨ L.length ≤ cpu) :
    Calls Try.prog 32 #[.pointer (some ⟨b, 0, none⟩), .int .i64 cpu] w fun e w' => e = .returned (.slice none 0 0) ∧ w = w' := by
  go_enter Try.func32, Try.ntmps32
  go_wp2_with (go_at_call 44; refine (list_out h ok.1 cpu hc).mono ?_; rintro e w' ⟨rfl, rfl⟩)
  go_ret
  exact ⟨rfl, rfl⟩
set_option maxHeartbeats 400000 in
theorem list_yes (h : Own W (nrBlocks T b bl lim L ++ m) w) (ok : NrOk lim L) (i : Nat) {x : NL} (hx : L[i]? = some x) :
    Calls Try.prog 26 #[.pointer (some ⟨b, 0, none⟩), .int .i64 i] w fun e w' => ∃ v bs, e = .returned v ∧ IntsOwn true v x.xs bs ∧ Own W (bs ++ (nrBlocks T b bl lim L ++ m)) w' := by
  have hi : i < L.length := (List.getElem?_eq_some_iff.1 hx).1
  have ho := nrOut h hx
  have cx := nrCell h hx
  have hsrc : IntsSrc w x.v x.xs := SlO.src (ok.at_ hx).1 ho
  have hlx := (ok.at_ hx).2
  have hok : IntsOwn true x.v x.xs x.bs := (ok.at_ hx).1
  obtain ⟨A, cap, hv, hnc, hcm⟩ := SlO.slice hok
  rw [hv] at cx hsrc
  clear hv hok hx
  go_enter Try.func26, Try.ntmps26
  go_wp2_with (first | (go_at_call 44; refine (list_in h ok.1 i hi).mono ?_; rintro e w' ⟨rfl, rfl⟩) | (go_at_call 45; refine (clone_spec h hsrc (by omega)).mono ?_; rintro e w1 ⟨v', bs', rfl, h1, h2⟩))
  go_ret
  exact ⟨v', bs', rfl, h1, h2⟩
set_option maxHeartbeats 400000 in
theorem list_no (h : Own W (nrBlocks T b bl lim L ++ m) w) (ok : NrOk lim L) (cpu : Int) (hc : cpu < 0 ∨ L.length ≤ cpu) :
    Calls Try.prog 26 #[.pointer (some ⟨b, 0, none⟩), .int .i64 cpu] w fun e w' => e = .returned (.slice none 0 0) ∧ w = w' := by
  go_enter Try.func26, Try.ntmps26
  go_wp2_with (go_at_call 44; refine (list_out h ok.1 cpu hc).mono ?_; rintro e w' ⟨rfl, rfl⟩)
  go_ret
  exact ⟨rfl, rfl⟩
end
end Go.Proofs.Ytpmnababdjdniaa
