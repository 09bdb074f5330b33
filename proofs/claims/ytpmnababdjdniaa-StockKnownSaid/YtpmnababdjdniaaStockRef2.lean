/-
  What the functions of wainscotref13 do, on: Put, Drain, Has, Held, New.
-/
import Derived.Test.YtpmnababdjdniaaStockRef
namespace Go.Proofs.Ytpmnababdjdniaa.ref
open Go.RowKit
section
variable {W : World} {m : List (Nat × Obj)} {w : World} {b bl : Nat} {l : List (Int × Int)}

theorem put_close {cpu g n x y z : Int} {l' : List (Int × Int)} {w' : World} (hp : stPut l cpu g n = ((x, y, z), l')) (ho : Own W (blocks b bl l' ++ m) w') :
    Ending.returned (.tuple #[.int .i64 x, .int .i64 y, .int .i64 z]) = .returned (.tuple #[.int .i64 (stPut l cpu g n).1.1, .int .i64 (stPut l cpu g n).1.2.1, .int .i64 (stPut l cpu g n).1.2.2]) ∧ Own W (blocks b bl (stPut l cpu g n).2 ++ m) w' := by
  rw [hp]; exact ⟨rfl, ho⟩
theorem whole512 (g : Int) : stWhole g 512 = (g, 512) := rfl
set_option maxHeartbeats 400000 in
theorem put_in (h : Own W (blocks b bl l ++ m) w) (hl : l.length ≤ 8) (i : Nat) (g n k g0 : Int) (hi : i < l.length) (hp : l[i]? = some (g0, k)) (hk : 0 ≤ k ∧ k ≤ 1024) (hz : k = 0 → g0 = 0) :
    Calls Try.prog 35 #[.pointer (some ⟨b, 0, none⟩), .int .i64 i, .int .i64 g, .int .i64 n] w fun e w' => e = .returned (.tuple #[.int .i64 (stPut l i g n).1.1, .int .i64 (stPut l i g n).1.2.1, .int .i64 (stPut l i g n).1.2.2]) ∧ Own W (blocks b bl (stPut l i g n).2 ++ m) w' := by
  have cg := cellG h hp
  have cn := cellN h hp
  have c0 := head h
  have hs := stAt_nat hp
  have hlt := (lt h).2
  have hz' : k = 0 ∧ g0 = 0 ∨ 0 < k := by omega
  clear hz
  go_enter Try.func35, Try.ntmps35
  go_wp2_with (first | (go_at_call 38; refine (has_in h i hi).mono ?_; rintro e w' ⟨rfl, rfl⟩) | (go_at_call 51; refine (set_spec ((h.new _).perm List.perm_middle.symm) hl i hi _ _).mono ?_; rintro e w1 ⟨rfl, h1⟩; have q := h1.perm List.perm_middle; have q0 := q.cell List.mem_cons_self 0; have q1 := q.cell List.mem_cons_self 1; simp at q0 q1))
  all_goals (try go_quiet (fail))
  all_goals (try go_wp2)
  all_goals go_ret3
  all_goals first
    | refine put_close ?_ h
    | refine put_close ?_ (h.alloc _)
    | refine put_close ?_ (h1.perm List.perm_middle).skip
    | refine put_close ?_ ((h1.perm List.perm_middle).skip.drewN _)
  all_goals clear cg cn c0 hlt
  all_goals grind [stPut, whole512]

set_option maxHeartbeats 400000 in
theorem drain_in (h : Own W (blocks b bl l ++ m) w) (hl : l.length ≤ 8) (i : Nat) (k g0 : Int) (hi : i < l.length) (hp : l[i]? = some (g0, k)) :
    Calls Try.prog 36 #[.pointer (some ⟨b, 0, none⟩), .int .i64 i] w fun e w' => e = .returned (.tuple #[.int .i64 g0, .int .i64 k]) ∧ Own W (blocks b bl (l.set i (0, 0)) ++ m) w' := by
  have cg := cellG h hp
  have cn := cellN h hp
  have c0 := head h
  have fg := free h (i * 2)
  have fn := free h (i * 2 + 1)
  have hlt := (lt h).2
  have hlb := (lt h).1
  go_enter Try.func36, Try.ntmps36
  go_wp2_with (first | (go_at_call 38; refine (has_in h i hi).mono ?_; rintro e w' ⟨rfl, rfl⟩))
  go_quiet (fail)
  go_wp2
  go_ret2
  exact ⟨rfl, ((put2 h hi _ _).alloc _).drewN _⟩

set_option maxHeartbeats 400000 in
theorem Has_in (h : Own W (blocks b bl l ++ m) w) (hl : l.length ≤ 8) (i : Nat) (k g0 : Int) (hi : i < l.length) (hp : l[i]? = some (g0, k)) :
    Calls Try.prog 15 #[.pointer (some ⟨b, 0, none⟩), .int .i64 i] w fun e w' => e = .returned (.tuple #[.int .i64 g0, .int .i64 k]) ∧ Own W (blocks b bl l ++ m) w' := by
  have cg := cellG h hp
  have cn := cellN h hp
  have c0 := head h
  have i0 : (0 : Int) ≤ i := by omega
  have i1 : (i : Int) < l.length := by omega
  go_enter Try.func15, Try.ntmps15
  go_wp2_with (first | (go_at_call 38; refine (has_in h i hi).mono ?_; rintro e w' ⟨rfl, rfl⟩))
  go_quiet (fail)
  go_wp2
  go_ret2
  exact ⟨rfl, h.drewN _⟩

set_option maxHeartbeats 400000 in
theorem take_out (h : Own W (blocks b bl l ++ m) w) (cpu g n : Int) (hc : cpu < 0 ∨ l.length ≤ cpu) :
    Calls Try.prog 34 #[.pointer (some ⟨b, 0, none⟩), .int .i64 cpu, .int .i64 g, .int .i64 n] w fun e w' => e = .returned (.bool false) ∧ Own W (blocks b bl l ++ m) w' := by
  go_enter Try.func34, Try.ntmps34
  go_wp2_with (first | (go_at_call 38; refine (has_out h cpu hc).mono ?_; rintro e w' ⟨rfl, rfl⟩))
  go_ret
  exact ⟨rfl, h⟩
set_option maxHeartbeats 400000 in
theorem put_out (h : Own W (blocks b bl l ++ m) w) (cpu g n : Int) (hc : cpu < 0 ∨ l.length ≤ cpu) :
    Calls Try.prog 35 #[.pointer (some ⟨b, 0, none⟩), .int .i64 cpu, .int .i64 g, .int .i64 n] w fun e w' => e = .returned (.tuple #[.int .i64 0, .int .i64 0, .int .i64 9]) ∧ Own W (blocks b bl l ++ m) w' := by
  go_enter Try.func35, Try.ntmps35
  go_wp2_with (first | (go_at_call 38; refine (has_out h cpu hc).mono ?_; rintro e w' ⟨rfl, rfl⟩))
  go_ret3
  exact ⟨rfl, h⟩
set_option maxHeartbeats 400000 in
theorem drain_out (h : Own W (blocks b bl l ++ m) w) (cpu : Int) (hc : cpu < 0 ∨ l.length ≤ cpu) :
    Calls Try.prog 36 #[.pointer (some ⟨b, 0, none⟩), .int .i64 cpu] w fun e w' => e = .returned (.tuple #[.int .i64 0, .int .i64 0]) ∧ Own W (blocks b bl l ++ m) w' := by
  go_enter Try.func36, Try.ntmps36
  go_wp2_with (first | (go_at_call 38; refine (has_out h cpu hc).mono ?_; rintro e w' ⟨rfl, rfl⟩))
  go_ret2
  exact ⟨rfl, h⟩
set_option maxHeartbeats 400000 in
theorem Has_out (h : Own W (blocks b bl l ++ m) w) (cpu : Int) (hc : cpu < 0 ∨ l.length ≤ cpu) :
    Calls Try.prog 15 #[.pointer (some ⟨b, 0, none⟩), .int .i64 cpu] w fun e w' => e = .returned (.tuple #[.int .i64 0, .int .i64 0]) ∧ Own W (blocks b bl l ++ m) w' := by
  go_enter Try.func15, Try.ntmps15
  go_wp2_with (first | (go_at_call 38; refine (has_out h cpu hc).mono ?_; rintro e w' ⟨rfl, rfl⟩))
  go_ret2
  exact ⟨rfl, h⟩

theorem take_spec (h : Own W (blocks b bl l ++ m) w) (ok : StOk l) (cpu g n : Int) :
    Calls Try.prog 34 #[.pointer (some ⟨b, 0, none⟩), .int .i64 cpu, .int .i64 g, .int .i64 n] w fun e w' => e = .returned (.bool (stTake l cpu g n).1) ∧ Own W (blocks b bl (stTake l cpu g n).2 ++ m) w' := by
  cases hs : stAt l cpu with
  | none => rw [show stTake l cpu g n = (false, l) from by simp [stTake, hs]]; exact take_out h cpu g n (stAt_out hs)
  | some p =>
    obtain ⟨i, rfl, hi, hp⟩ := stAt_in hs
    exact take_in h ok.2.1 i g n p.2 p.1 hi hp (ok.at_ hp)
theorem put_spec (h : Own W (blocks b bl l ++ m) w) (ok : StOk l) (cpu g n : Int) :
    Calls Try.prog 35 #[.pointer (some ⟨b, 0, none⟩), .int .i64 cpu, .int .i64 g, .int .i64 n] w fun e w' => e = .returned (.tuple #[.int .i64 (stPut l cpu g n).1.1, .int .i64 (stPut l cpu g n).1.2.1, .int .i64 (stPut l cpu g n).1.2.2]) ∧ Own W (blocks b bl (stPut l cpu g n).2 ++ m) w' := by
  cases hs : stAt l cpu with
  | none => rw [show stPut l cpu g n = ((0, 0, 9), l) from by simp [stPut, hs]]; exact put_out h cpu g n (stAt_out hs)
  | some p =>
    obtain ⟨i, rfl, hi, hp⟩ := stAt_in hs
    refine put_in h ok.2.1 i g n p.2 p.1 hi hp (ok.at_ hp) (fun h0 => ?_)
    rcases ok.2.2 p (List.mem_of_getElem? hp) with rfl | h'
    · rfl
    · omega
theorem drain_spec (h : Own W (blocks b bl l ++ m) w) (ok : StOk l) (cpu : Int) :
    Calls Try.prog 36 #[.pointer (some ⟨b, 0, none⟩), .int .i64 cpu] w fun e w' => e = .returned (.tuple #[.int .i64 (stDrain l cpu).1.1, .int .i64 (stDrain l cpu).1.2]) ∧ Own W (blocks b bl (stDrain l cpu).2 ++ m) w' := by
  cases hs : stAt l cpu with
  | none => rw [show stDrain l cpu = ((0, 0), l) from by simp [stDrain, hs]]; exact drain_out h cpu (stAt_out hs)
  | some p =>
    obtain ⟨i, rfl, hi, hp⟩ := stAt_in hs
    rw [show stDrain l i = (p, l.set i (0, 0)) from by simp [stDrain, hs]]
    exact drain_in h ok.2.1 i p.2 p.1 hi hp
theorem Has_spec (h : Own W (blocks b bl l ++ m) w) (ok : StOk l) (cpu : Int) :
    Calls Try.prog 15 #[.pointer (some ⟨b, 0, none⟩), .int .i64 cpu] w fun e w' => e = .returned (.tuple #[.int .i64 (stHas l cpu).1, .int .i64 (stHas l cpu).2]) ∧ Own W (blocks b bl l ++ m) w' := by
  cases hs : stAt l cpu with
  | none => rw [show stHas l cpu = (0, 0) from by simp [stHas, hs]]; exact Has_out h cpu (stAt_out hs)
  | some p =>
    obtain ⟨i, rfl, hi, hp⟩ := stAt_in hs
    rw [show stHas l i = p from by simp [stHas, hs]]
    exact Has_in h ok.2.1 i p.2 p.1 hi hp

set_option maxHeartbeats 400000 in
theorem held_spec (h : Own W (blocks b bl l ++ m) w) (ok : StOk l) (g : Int) :
    Calls Try.prog 17 #[.pointer (some ⟨b, 0, none⟩), .int .i64 g] w fun e w' => e = .returned (.int .i64 (stHeld l g)) ∧ Own W (blocks b bl l ++ m) w' := by
  have c0 := head h
  have hl8 := ok.2.1
  go_enter Try.func17, Try.ntmps17
  go_wp2
  go_loop [5, 6] (fun n k => ∃ i : Nat, i ≤ l.length ∧ k = .int .i64 i ∧ n = .int .i64 (stHeld (l.take i) g)) (fun _ k => l.length - (intOf k).toNat)
  case atStart => exact ⟨0, Nat.zero_le _, rfl, by simp [stHeld]⟩
  case round =>
    obtain ⟨i, hi, rfl, rfl⟩ := hrel
    by_cases hlt : i < l.length
    · obtain ⟨p, hp⟩ : ∃ p, l[i]? = some p := ⟨_, List.getElem?_eq_getElem hlt⟩
      have cg := cellG h hp
      have cn := cellN h hp
      have b1 := stHeld_bd g (l.take i) (fun q hq => ok.all q (List.mem_of_mem_take hq))
      have b2 := ok.at_ hp
      have b3 : (l.take i).length ≤ 8 := by rw [List.length_take]; omega
      have HS := stHeld_take g l i p hp
      by_cases hg : p.1 = g
      · rw [if_pos hg] at HS
        have H := Lib.hid HS
        clear HS
        go_wp2
        go_round
        case rel => exact ⟨i + 1, by omega, by go_num, by rw [H.out]⟩
        case measure => simp [intOf]; omega
      · rw [if_neg hg] at HS
        have H := Lib.hid HS
        clear HS
        have hg' : (p.1 == g) = false := by simpa using hg
        go_wp2
        go_round
        case rel => exact ⟨i + 1, by omega, by go_num, by rw [H.out]; go_num⟩
        case measure => simp [intOf]; omega
    · obtain rfl : i = l.length := by omega
      go_wp2
      go_ret
      exact ⟨by simp, h⟩
end
theorem one_info : (Try.prog.info? 81).map (fun i => (i.zero, i.size, i.bytes)) = some (some (.agg #[.int .i64 0, .int .i64 0]), 2, 16) := by kernel_rfl
set_option maxHeartbeats 400000 in
theorem new_ok {W : World} {m : List (Nat × Obj)} {w : World} (h : Own W m w) (k : Int) (h1 : 1 ≤ k) (h8 : k ≤ 8) :
    Calls Try.prog 12 #[.int .i64 k] w fun e w' => ∃ b bl, e = .returned (.tuple #[.pointer (some ⟨b, 0, none⟩), .int .i64 0]) ∧ Own W (blocks b bl (List.replicate k.toNat (0, 0)) ++ m) w' := by
  obtain ⟨n, rfl⟩ := Int.eq_ofNat_of_zero_le (show 0 ≤ k from by omega)
  rw [Int.toNat_natCast]
  obtain ⟨i, hi, hz, hs, hb⟩ := info_get one_info
  have hmk := fun W => run_make_rowN (P := Try.prog) 73 81 i _ Try.underlying73 hi hz .i64 .i64 n n (Nat.le_refl _) (by rw [hb]; omega) (by omega) W
  rw [hs, madeCells_const _ (.int .i64 0) _ (by simp [Value.cells]) (by intro j hj; obtain rfl | rfl : j = 0 ∨ j = 1 := (by simp [Value.cells] at hj; omega) <;> rfl), ← stCells_zero] at hmk
  go_enter Try.func12, Try.ntmps12
  go_wp2
  go_ret2
  refine ⟨w.heap.size + 1, w.heap.size, rfl, ?_⟩
  have h2 := (h.new (.cells (stCells (List.replicate n (0, 0))) 81)).new (.cells #[.slice (some ⟨w.heap.size, 0, none⟩) n n] 75)
  simpa [blocks] using h2
set_option maxHeartbeats 400000 in
theorem new_bad (n : Int) (hn : n < 1 ∨ 8 < n) (w : World) :
    Calls Try.prog 12 #[.int .i64 n] w fun e w' => e = .returned (.tuple #[.pointer none, .int .i64 2]) ∧ w = w' := by
  go_enter Try.func12, Try.ntmps12
  go_wp2
  all_goals (try omega)
  all_goals go_ret2
  all_goals exact ⟨rfl, rfl⟩
end Go.Proofs.Ytpmnababdjdniaa.ref
