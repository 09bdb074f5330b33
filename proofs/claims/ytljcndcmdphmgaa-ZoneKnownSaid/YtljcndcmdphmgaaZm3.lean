/-
  Texts of this claim, joined. No condition.
-/
import Derived.Test.YtljcndcmdphmgaaZm2
import Derived.Test.YtljcndcmdphmgaaZm1
import Derived.OpenShut
import Derived.Deep.Slices
/-
  The place of a block's buddy by xor.
-/
namespace Go.Proofs.Ytljcndcmdphmgaa
open Go.RowKit
theorem xor_one_nat (q : Nat) : q ^^^ 1 = if q % 2 = 0 then q + 1 else q - 1 := by
  have h1 : (q ^^^ 1) / 2 = q / 2 := by
    have := Nat.xor_div_two (a := q) (b := 1)
    simpa using this
  have h2 : (q ^^^ 1) % 2 = 1 ↔ ¬ (q % 2 = 1 ↔ 1 % 2 = 1) := Nat.xor_mod_two_eq_one
  have h3 : (1 : Nat) % 2 = 1 := rfl
  rw [h3] at h2
  split
  · have : (q ^^^ 1) % 2 = 1 := h2.2 (by omega)
    omega
  · have : ¬ (q ^^^ 1) % 2 = 1 := fun h => (h2.1 h) (by omega)
    omega
theorem xor_other {a o : Nat} (h : a % 2 ^ o = 0) : a ^^^ 2 ^ o = other a o := by
  obtain ⟨q, rfl⟩ := Nat.dvd_of_mod_eq_zero h
  have hp := Nat.two_pow_pos o
  have e1 : 2 ^ o * q = q <<< o := by rw [Nat.shiftLeft_eq, Nat.mul_comm]
  have e2 : 2 ^ o = 1 <<< o := by rw [Nat.shiftLeft_eq, Nat.one_mul]
  have e3 : (2 ^ o * q) ^^^ 2 ^ o = 2 ^ o * (q ^^^ 1) := by
    rw [e1]
    conv => lhs; rw [e2]
    rw [← Nat.shiftLeft_xor_distrib, Nat.shiftLeft_eq, Nat.mul_comm]
  rw [e3, xor_one_nat]
  unfold other
  have e4 : (2 ^ o * q) % (2 * 2 ^ o) = 0 ↔ q % 2 = 0 := by
    rw [Nat.mul_comm 2 (2 ^ o), Nat.mul_mod_mul_left]
    constructor
    · intro h
      rcases Nat.mul_eq_zero.1 h with h | h
      · omega
      · exact h
    · intro h
      rw [h]
      rfl
  by_cases hq : q % 2 = 0
  · rw [if_pos hq, if_pos (e4.2 hq), Nat.mul_add, Nat.mul_one]
  · rw [if_neg hq, if_neg (fun h => hq (e4.1 h)), Nat.mul_sub, Nat.mul_one]
theorem xor_i64 (a b : Nat) (ha : a < 2 ^ 40) (hb : b < 2 ^ 40) : bits .xor .i64 (a : Int) (b : Int) = ((a ^^^ b : Nat) : Int) := by
  have h1 : (BitVec.ofInt 64 ((a : Nat) : Int)).toNat = a := by
    rw [BitVec.ofInt_natCast, BitVec.toNat_ofNat]; exact Nat.mod_eq_of_lt (by omega)
  have h2 : (BitVec.ofInt 64 ((b : Nat) : Int)).toNat = b := by
    rw [BitVec.ofInt_natCast, BitVec.toNat_ofNat]; exact Nat.mod_eq_of_lt (by omega)
  show IntKind.i64.wrap ((BitVec.ofInt 64 (a : Int) ^^^ BitVec.ofInt 64 (b : Int)).toNat : Int) = _
  rw [BitVec.toNat_xor, h1, h2]
  have := Nat.xor_lt_two_pow ha hb
  rw [IntWalk.i64_in] <;> omega
end Go.Proofs.Ytljcndcmdphmgaa

/-
  Contracts: frame.Check, frame.Head, frame.Free, of any table; slices.Clone of pages.
-/
namespace Go.Proofs.Ytljcndcmdphmgaa
open Go.RowKit
/-- a slice reads as pages -/
def PgS (w : World) (v : Value) (L : List Pg) : Prop := ∃ A c, v = .slice A L.length c ∧ L.length ≤ c ∧ c ≤ maxLen ∧ (0 < L.length → ∃ g o, A = some ⟨g, o, none⟩ ∧ PgAt w g o L)
section
variable {W w : World} {m bs : List (Nat × Obj)} {v : Value} {L : List Pg}
theorem PgS.own (h : PgS W v L) (hO : Own W m w) : PgS w v L := by
  obtain ⟨A, c, rfl, h1, h2, h3⟩ := h
  exact ⟨A, c, rfl, h1, h2, fun hp => by obtain ⟨g, o, rfl, hA⟩ := h3 hp; exact ⟨g, o, rfl, hA.own hO⟩⟩
theorem PgS.below (h : PgS w v L) {w' : World} (hb : Below w.heap.size w w') : PgS w' v L := h.own (m := []) ⟨hb, by simp, by simp⟩
theorem own_of_below (h : Own W m w) {w' : World} (hb : Below w.heap.size w w') : Own W m w' := h.then_below hb
theorem pgCheck_short {L : List Pg} (h : L.length = 0 ∨ 1024 < L.length) : pgCheck L = 50 := by
  unfold pgCheck
  rw [if_neg]
  omega
set_option maxHeartbeats 1000000 in
theorem check_spec (h : Own W m w) (hs : PgS w v L) :
    Calls Try.prog 16 #[v] w fun e w' => e = .returned (.int .i64 (pgCheck L)) ∧ Own W m w' := by
  obtain ⟨A, c, rfl, h1, h2, h3⟩ := hs
  unfold maxLen at h2
  by_cases hz : L.length = 0 ∨ 1024 < L.length
  · have HC := Lib.hid (pgCheck_short hz)
    have h0 := h.alloc (.cells #[.int .i64 50] 26)
    obtain ⟨N, hN⟩ : ∃ N, L.length = N := ⟨_, rfl⟩
    rw [hN] at hz h1 ⊢
    clear h3 hN
    rcases hz with rfl | hz
    · go_enter Try.func16, Try.ntmps16
      go_wp2_with fail
      exact bodyPost_ret (v := .int .i64 50) (by simp [results, Try.f16, go_sem]) rfl ⟨by rw [HC.out], h0⟩
    · have hn0 : ((N : Int) == 0) = false := by rw [beq_eq_false_iff_ne]; omega
      have hn2 : decide (1024 < (N : Int)) = true := decide_eq_true (by omega)
      go_enter Try.func16, Try.ntmps16
      go_wp2_with fail
      exact bodyPost_ret (v := .int .i64 50) (by simp [results, Try.f16, go_sem]) rfl ⟨by rw [HC.out], h0⟩
  · obtain ⟨g, o, rfl, hA⟩ := h3 (by omega)
    exact (callsIn_wide.1 (check_loop g o c L.length L rfl (by omega) (by omega) h1 (by omega) w hA)).mono fun _ _ ⟨he, hb⟩ => ⟨he, h.then_below hb⟩
theorem head_spec (h : Own W m w) (hs : PgS w v L) (hc : pgCheck L = 0) (page : Int) :
    Calls Try.prog 49 #[v, .int .i64 page] w fun e w' => e = .returned (.int .i64 (pgHd L page)) ∧ Own W m w' := by
  obtain ⟨A, c, rfl, h1, h2, h3⟩ := hs
  unfold maxLen at h2
  obtain ⟨z1, z2, z3⟩ := pgCheck_zero hc
  obtain ⟨g, o, rfl, hA⟩ := h3 (by omega)
  exact (callsIn_wide.1 (head_in g o c L.length L rfl (by omega) h1 (by omega) page z3 w hA)).mono fun _ _ ⟨he, hb⟩ => ⟨he, h.then_below hb⟩
set_option maxHeartbeats 1000000 in
theorem free_spec (h : Own W m w) (hs : PgS w v L) :
    Calls Try.prog 19 #[v] w fun e w' => e = .returned (.int .i64 (pgFree L)) ∧ Own W m w' := by
  by_cases hc : pgCheck L = 0
  · obtain ⟨A, c, rfl, h1, h2, h3⟩ := hs
    unfold maxLen at h2
    obtain ⟨z1, z2, z3⟩ := pgCheck_zero hc
    obtain ⟨g, o, rfl, hA⟩ := h3 (by omega)
    exact (callsIn_wide.1 (free_in g o c L.length L rfl (by omega) (by omega) h1 (by omega) z3 hc w hA)).mono fun _ _ ⟨he, hb⟩ => ⟨he, h.then_below hb⟩
  · have h0 := h.alloc (.cells #[.int .i64 0] 3)
    have hs0 := hs.below ((Below.refl _ w).alloc (Nat.le_refl _) (.cells #[.int .i64 0] 3))
    have hf : pgFree L = 0 := by unfold pgFree; rw [if_neg hc]
    have hc : pgCheck L = 50 := (pgCheck_cases L).resolve_left hc
    have HC := Lib.hid hc
    have HF := Lib.hid hf
    have hb := h.new (.cells #[.int .i64 0] 3)
    clear hc hf
    go_enter Try.func19, Try.ntmps19
    go_wp2_with (go_at_call 16; refine (check_spec hb hs0).mono ?_; rintro e w' ⟨rfl, h1⟩; rw [HC.out]; have q0 := h1.cell List.mem_cons_self 0; have f0 := h1.frozen List.mem_cons_self 0; simp at q0)
    have q1 := (h1.set 0 (.int .i64 0)).cell List.mem_cons_self 0
    simp at q1
    exact bodyPost_ret (v := .int .i64 0) (by simp [results, Try.f19, go_sem, q1]) rfl ⟨by rw [HF.out], (h1.set 0 _).skip⟩
/-- what Head answers -/
def pgHeadE (L : List Pg) (page : Int) : Int × Int := if pgCheck L ≠ 0 then (0, 50) else if page < 0 ∨ (L.length : Int) ≤ page then (0, 9) else (pgHd L page, 0)
set_option maxHeartbeats 1000000 in
theorem Head_spec (h : Own W m w) (hs : PgS w v L) (page : Int) :
    Calls Try.prog 18 #[v, .int .i64 page] w fun e w' => e = .returned (.tuple #[.int .i64 (pgHeadE L page).1, .int .i64 (pgHeadE L page).2]) ∧ Own W m w' := by
  have hs' := hs
  obtain ⟨A, c, rfl, h1, h2, h3⟩ := hs'
  unfold maxLen at h2
  obtain ⟨N, hN⟩ : ∃ N, L.length = N := ⟨_, rfl⟩
  have HN := Lib.hid hN
  rw [hN] at hs h1 ⊢
  clear h3 hN
  by_cases hc : pgCheck L = 0
  · have HC := Lib.hid hc
    clear hc
    by_cases hp : page < 0 ∨ (N : Int) ≤ page
    · have hr : pgHeadE L page = (0, 9) := by unfold pgHeadE; rw [if_neg (by rw [HC.out]; simp), if_pos (by rw [HN.out]; exact hp)]
      rw [hr]
      clear hr
      rcases hp with hp | hp
      all_goals
        have hp0 : page < 0 ∨ 0 ≤ page := by omega
        rcases hp0 with hp0 | hp0
        all_goals
          go_enter Try.func18, Try.ntmps18
          go_wp2_with (go_at_call 16; refine (check_spec h hs).mono ?_; rintro e w' ⟨rfl, h1⟩; rw [HC.out])
          go_ret2
          exact ⟨rfl, h1⟩
    · have hr : pgHeadE L page = (pgHd L page, 0) := by unfold pgHeadE; rw [if_neg (by rw [HC.out]; simp), if_neg (by rw [HN.out]; exact hp)]
      rw [hr]
      have hp1 : 0 ≤ page := by omega
      have hp2 : page < N := by omega
      clear hr hp
      go_enter Try.func18, Try.ntmps18
      go_wp2_with (first | (go_at_call 16; refine (check_spec (Own.self w) hs).mono ?_; rintro e w1 ⟨rfl, h0⟩; rw [HC.out]; have hs1 := hs.own h0; have h1 := h.of_self h0) | (go_at_call 49; refine (head_spec h1 hs1 HC.out page).mono ?_; rintro e w' ⟨rfl, h2⟩))
      go_ret2
      exact ⟨rfl, h2⟩
  · have hr : pgHeadE L page = (0, 50) := by unfold pgHeadE; rw [if_pos hc]
    rw [hr]
    have hc : pgCheck L = 50 := (pgCheck_cases L).resolve_left hc
    have HC := Lib.hid hc
    clear hc hr
    go_enter Try.func18, Try.ntmps18
    go_wp2_with (go_at_call 16; refine (check_spec h hs).mono ?_; rintro e w' ⟨rfl, h1⟩; rw [HC.out])
    go_ret2
    exact ⟨rfl, h1⟩
end
end Go.Proofs.Ytljcndcmdphmgaa

/-
  slices.Clone, slices.Index, slices.Contains at []int.
-/
namespace Go.Proofs.Ytljcndcmdphmgaa
open Go.RowKit

theorem int_info : (Try.prog.info? 3).map (fun i => (i.zero, i.size, i.bytes)) = some (some (.int .i64 0), 1, 8) := by kernel_rfl
/-- numbers as values -/
def ints (l : List Int) : List Value := l.map fun n => .int .i64 n
theorem ints_len (l : List Int) : (ints l).length = l.length := by simp [ints]
theorem ints_get {l : List Int} {i : Nat} {n : Int} (h : l[i]? = some n) : (ints l)[i]? = some (.int .i64 n) := by simp [ints, h]
theorem ints_one (l : List Int) : ∀ u ∈ ints l, u.oneCell' = true := by
  intro u hu
  obtain ⟨n, _, rfl⟩ := List.mem_map.1 hu
  rfl
theorem ints_append (a b : List Int) : ints a ++ ints b = ints (a ++ b) := by simp [ints]
theorem ints_take (l : List Int) (k : Nat) : (ints l).take k = ints (l.take k) := by simp [ints]
theorem ints_drop (l : List Int) (k : Nat) : (ints l).drop k = ints (l.drop k) := by simp [ints]
theorem ints_set (l : List Int) (k : Nat) (n : Int) : (ints l).set k (.int .i64 n) = ints (l.set k n) := by simp [ints]
/-- a slice of numbers that the call owns -/
abbrev IntsOwn (ex : Bool) (v : Value) (l : List Int) (bs : List (Nat × Obj)) : Prop := SlO ex 3 1 v l.length (ints l) bs
/-- a slice that reads as numbers -/
abbrev IntsSrc (w : World) (v : Value) (l : List Int) : Prop := Src w 1 v l.length (ints l)

section
variable {W w : World} {m bs : List (Nat × Obj)} {v x : Value} {l l' : List Int}

/-- append, of numbers: 'at_builtin; refine wpList_app_ints rfl _ _ rfl rfl rfl hs hO hx hlen ?_; intro v' w' bs' h1 h2 h3' -/
theorem wpList_app_ints {ops : Array Oper} {rest : List Oper} {o : Oper} {a : Act} {Q : Exit → Act → World → Prop} (hgd : o.guard = none) (s x : Operand)
    (ho : o.op = .call { callee := .builtin .append, args := #[s, x], argTypes := #[38, 38] }) {v xv : Value} (hes : a.eval s = v) (hex : a.eval x = xv)
    (hs : IntsOwn true v l bs) (hO : Own W (bs ++ m) w) (hx : IntsSrc w xv l') (hlen : l.length + l'.length ≤ 60000)
    (h : ∀ v' w' bs', IntsOwn true v' (l ++ l') bs' → Own W (bs' ++ m) w' → (v' = .slice none 0 0 ↔ v = .slice none 0 0 ∧ l' = []) → wpList Try.prog ops Q rest (a.put o.dst v') w') :
    wpList Try.prog ops Q (o :: rest) a w := by
  obtain ⟨i, hi, hz, hsz, hb⟩ := info_get int_info
  refine wpList_app hgd s x _ ho hes hex 3 i _ 1 8 Try.underlying38 hi hz hsz hb rfl (by omega) hs hO hx (ints_one l') (by unfold maxLen; omega) (by omega) fun v' w' bs' h1 h2 h3 => ?_
  rw [ints_append, ← List.length_append] at h1
  exact h v' w' bs' h1 h2 (by rw [h3, List.length_eq_zero_iff])

/-- one number, in a block of its own -/
theorem src_one (w : World) (p : Int) : IntsSrc (w.alloc (.cells #[.int .i64 p] 3)) (.slice (some ⟨w.heap.size, 0, none⟩) 1 1) [p] := by
  refine ⟨rfl, .inr ⟨_, _, rfl, fun j u hj => ?_⟩⟩
  rw [add_lit0]
  match j, hj with
  | 0, hj => simp [ints] at hj; subst hj; simp
  | j + 1, hj => simp [ints] at hj

set_option maxHeartbeats 400000 in
theorem clone_spec (h : Own W m w) (hv : IntsSrc w v l) (hlen : l.length ≤ 60000) :
    Calls Try.prog 99 #[v] w fun e w' => ∃ v' bs', e = .returned v' ∧ IntsOwn true v' l bs' ∧ Own W (bs' ++ m) w' := by
  rcases hv.2 with ⟨rfl, hn⟩ | ⟨a, c, rfl, hc⟩
  · have hl : l = [] := List.eq_nil_of_length_eq_zero hn
    subst hl
    have he := Lib.run_eql_slice_nil (P := Try.prog) w 38 3 none 0 0 0 0 Try.underlying38
    go_enter Try.func99, Try.ntmps99
    go_wp2
    go_ret
    exact ⟨_, [], rfl, SlO.nil _ _ _, h⟩
  · have he := Lib.run_eql_slice_nil (P := Try.prog) w 38 3 (some a) l.length c 0 0 Try.underlying38
    have hn := h.new (.cells #[] 3)
    have hs0 : IntsOwn true (.slice (some ⟨w.heap.size, 0, none⟩) 0 0) [] [(w.heap.size, .cells #[] 3)] := SlO.made true 3 1 w.heap.size 0 #[] 0 (Nat.le_refl _) (by unfold maxLen; omega) rfl
    have hx := hv.below (w' := w.alloc (.cells #[] 3)) ((Below.refl _ _).alloc (Nat.le_refl _) _)
    clear hv hc
    go_enter Try.func99, Try.ntmps99
    go_wp2_with (at_builtin; refine wpList_app_ints rfl _ _ rfl rfl rfl hs0 hn hx (by simpa using hlen) ?_; intro v' w' bs' h1 h2 h3; have H1 := Lib.hid h1; clear h1 h3)
    go_ret
    exact ⟨_, bs', rfl, H1.out, h2⟩

/-- where a number is first; -1: nowhere -/
def idxOf (l : List Int) (n : Int) : Int := match l.findIdx? (· == n) with | some i => i | none => -1
theorem idxOf_yes {l : List Int} {n : Int} {k : Nat} (hk : l[k]? = some n) (h : ∀ j, j < k → l[j]? ≠ some n) : idxOf l n = k := by
  have : l.findIdx? (· == n) = some k := by
    rw [List.findIdx?_eq_some_iff_getElem]
    obtain ⟨hlt, he⟩ := List.getElem?_eq_some_iff.1 hk
    refine ⟨hlt, by simp [he], fun j hj => ?_⟩
    have := h j hj
    rw [List.getElem?_eq_getElem (by omega)] at this
    simpa using this
  simp [idxOf, this]
theorem idxOf_no {l : List Int} {n : Int} (h : ∀ j, j < l.length → l[j]? ≠ some n) : idxOf l n = -1 := by
  have : l.findIdx? (· == n) = none := by
    rw [List.findIdx?_eq_none_iff]
    intro x hx
    obtain ⟨j, hj, rfl⟩ := List.getElem_of_mem hx
    have := h j hj
    rw [List.getElem?_eq_getElem hj] at this
    simpa using this
  simp [idxOf, this]
theorem idxOf_mem (l : List Int) (n : Int) : decide (0 ≤ idxOf l n) = decide (n ∈ l) := by
  unfold idxOf
  cases h : l.findIdx? (· == n) with
  | none =>
    rw [List.findIdx?_eq_none_iff] at h
    have : n ∉ l := fun hn => by simpa using h n hn
    simp [this]
  | some i =>
    rw [List.findIdx?_eq_some_iff_getElem] at h
    obtain ⟨hlt, he, _⟩ := h
    have : n ∈ l := by have := List.getElem_mem hlt; simp at he; rw [he] at this; exact this
    simp [this]

set_option maxHeartbeats 400000 in
theorem index_spec (hv : IntsSrc w v l) (hlen : l.length ≤ 60000) (n : Int) :
    Calls Try.prog 110 #[v, .int .i64 n] w fun e w' => e = .returned (.int .i64 (idxOf l n)) ∧ w = w' := by
  rcases hv.2 with ⟨rfl, hn⟩ | ⟨a, c, rfl, hc⟩
  · have hl : l = [] := List.eq_nil_of_length_eq_zero hn
    subst hl
    go_enter Try.func110, Try.ntmps110
    go_wp2
    go_loop [8] (fun k => k = .int .i64 0) (fun _ => 0)
    case atStart => exact rfl
    case round =>
      subst hrel
      go_wp2
      go_ret
      exact ⟨rfl, rfl⟩
  · go_enter Try.func110, Try.ntmps110
    go_wp2
    go_loop [8] (fun k => ∃ i : Nat, i ≤ l.length ∧ k = .int .i64 i ∧ ∀ j, j < i → l[j]? ≠ some n) (fun k => l.length - (intOf k).toNat)
    case atStart => exact ⟨0, Nat.zero_le _, rfl, fun j hj => absurd hj (by omega)⟩
    case round =>
      obtain ⟨i, hi, rfl, hno⟩ := hrel
      have HN := Lib.hid hno
      clear hno
      by_cases hlt : i < l.length
      · obtain ⟨y, hy⟩ : ∃ y, l[i]? = some y := ⟨_, List.getElem?_eq_getElem hlt⟩
        have cy := hc i _ (ints_get hy)
        have HY := Lib.hid hy
        clear hy hv hc
        by_cases hny : n = y
        · subst hny
          go_wp2
          go_ret
          exact ⟨by rw [idxOf_yes HY.out HN.out]; rfl, rfl⟩
        · have hb : (n == y) = false := by simpa using hny
          go_wp2
          go_round
          case rel =>
            refine ⟨i + 1, by omega, by go_num, fun j hj => ?_⟩
            by_cases hji : j < i
            · exact HN.out j hji
            · obtain rfl : j = i := by omega
              rw [HY.out]
              intro he
              exact hny (by simpa using he.symm)
          case measure => simp [intOf]; omega
      · obtain rfl : i = l.length := by omega
        clear hv hc
        go_wp2
        go_ret
        exact ⟨by rw [idxOf_no HN.out]; rfl, rfl⟩
set_option maxHeartbeats 400000 in
theorem contains_spec (hv : IntsSrc w v l) (hlen : l.length ≤ 60000) (n : Int) :
    Calls Try.prog 102 #[v, .int .i64 n] w fun e w' => e = .returned (.bool (decide (n ∈ l))) ∧ w = w' := by
  have hm := idxOf_mem l n
  have HM := Lib.hid hm
  clear hm
  go_enter Try.func102, Try.ntmps102
  go_wp2_with (go_at_call 110; refine (index_spec hv hlen n).mono ?_; rintro e w' ⟨rfl, rfl⟩)
  go_ret
  exact ⟨by rw [← HM.out]; rfl, rfl⟩
/-- a number is stored -/
theorem ints_store {ex : Bool} (hs : IntsOwn ex v l bs) (hO : Own W (bs ++ m) w) {g cap : Nat} (hv : v = .slice (some ⟨g, 0, none⟩) l.length cap) {j : Nat} (hj : j < l.length) (u : Int) :
    ∃ bs', IntsOwn ex v (l.set j u) bs' ∧ Own W (bs' ++ m) (w.setCell ⟨g, j, none⟩ (.int .i64 u)) := by
  obtain ⟨bs', h1, h2⟩ := SlO.store hs hO hv (j := j) (by omega) (.int .i64 u)
  rw [ints_set] at h1
  refine ⟨bs', ?_, h2⟩
  unfold IntsOwn
  rw [List.length_set]
  exact h1
theorem ints_cell {ex : Bool} (hs : IntsOwn ex v l bs) (hO : Own W (bs ++ m) w) {g cap : Nat} (hv : v = .slice (some ⟨g, 0, none⟩) l.length cap) {j : Nat} {n : Int} (hj : l[j]? = some n) : w.cell? ⟨g, j, none⟩ = some (.int .i64 n) :=
  SlO.cell hs hO hv (ints_get hj)
end
end Go.Proofs.Ytljcndcmdphmgaa

/-
  From what a law's walk gives to the law's row: the call returns true, and of what was there before nothing has turned. No condition.
-/
namespace Go.Proofs.Ytljcndcmdphmgaa
open Go.ChangeShapes Go.WideShapes Go.ChangeAt Go.RowKit

theorem Try.own : ownKnob Try.prog.godebug = none := by kernel_rfl
theorem Try.laidOut : laidOutB Try.prog = true := by kernel_rfl

section
variable {H : Type} {enc : TypeId × Value → H} {P : Program}
/-- arguments read behind the call as they did -/
theorem trodAll_below (hl : laidOutB P = true) {W W' : World} (hb : Below W.heap.size W W') {sp : Nat → Bool} :
    ∀ (ts : List TypeId) (vs : List Value) (ds : List (DataW H)) (ps : List MemPlace), (∀ t ∈ ts, P.readableRec t = true ∧ t < P.types.size) →
    DataW.TrodAll enc P W 0 (fun _ => true) true ts vs ds ps → (∀ x ∈ ps, x.block < W.heap.size) → (∀ x ∈ ps, sp x.block = true) →
    DataW.TrodAll enc P W' 0 sp true ts vs ds ps
  | [], vs, ds, ps, _, h, _, _ => by
    obtain ⟨rfl, rfl, rfl⟩ := trodAll_nil h
    exact trodAll_mk0
  | t :: ts, vs, ds, ps, hr, h, hlt, hs => by
    obtain ⟨v, vs', d, ds', p, q, rfl, rfl, rfl, h1, h2⟩ := trodAll_cons h
    obtain ⟨hr1, hr2⟩ := hr t List.mem_cons_self
    exact trodAll_cons_mk (WideElems.Trod_stays hl hr1 hr2 h1 (fun x hx => hb.same (hlt x (List.mem_append_left _ hx))) (fun x hx => hs x (List.mem_append_left _ hx)))
      (trodAll_below hl hb ts vs' ds' q (fun t' ht' => hr t' (List.mem_cons_of_mem _ ht')) h2 (fun x hx => hlt x (List.mem_append_right _ hx)) (fun x hx => hs x (List.mem_append_right _ hx)))

theorem law_post {f : Func} {s : ChangeSpec} {T : TypeId} {apart fresh handsOn again : Bool} {W W' : World} {args : Array Value} {ds gs : List (DataW H)} {before : List MemPlace} (hl : laidOutB P = true)
    (hT : P.underlying T = some .bool) (hres : f.resultTypes = #[T]) (hvars : s.vars = []) (hr : ∀ t ∈ f.params.toList, P.readableRec t = true ∧ t < P.types.size)
    (hW : DataW.Whole enc P f.params.toList s.vars apart W args.toList ds gs before)
    (hfn : s.fn H ds = { results := [.lit (.bool true)], args := ds }) (hb : Below W.heap.size W W') :
    s.post enc P f apart fresh handsOn again W args (.bool true) W' := by
  have hW' := hW
  obtain ⟨p, q, hA, hV, rfl, hz, hn⟩ := hW
  rw [hvars] at hV
  obtain ⟨rfl, rfl⟩ := trodVars_none hV
  simp only [List.append_nil] at hW'
  have hlt : ∀ x ∈ p, x.block < W.heap.size := fun x hx => hW'.lt x hx
  have hA' : ∀ sp : Nat → Bool, (∀ x ∈ p, sp x.block = true) → DataW.TrodAll enc P W' 0 sp true f.params.toList args.toList ds p :=
    fun sp hs => trodAll_below hl hb _ _ _ _ hr hA hlt hs
  have hR : ∀ (b : Nat) (sp : Nat → Bool) (hd : Bool), DataW.TrodAll enc P W' b sp hd f.resultTypes.toList ((Value.bool true).resultList f.resultTypes.size) [.lit (.bool true)] [] := fun b sp hd => by
    rw [hres]; exact trodAll_mk1 (shut_bool hT _)
  have hold : ∀ x ∈ p, (fun b => decide (b < W.heap.size)) x.block = true := fun x hx => by simpa using hlt x hx
  have hds : s.fn H (ds ++ []) = { results := [.lit (.bool true)], args := ds } := by rw [List.append_nil]; exact hfn
  refine ⟨ds, [], p, [], p, [], hW', ?_, ?_, ?_, World.keptBut_mono (fun x hx => ⟨hx, .inr (.inl hx)⟩) (hb.frame (· ∈ p)), fun _ => ?_⟩
  · rw [hds]; exact hR _ _ _
  · rw [hds]; exact hA' _ hold
  · rw [hvars, hds]; rfl
  · refine ⟨ok_one hres rfl (okWide_bool_mk hT _), _, [], [] ++ p, ⟨[] ++ p, [], trodAll_append (hA' _ (fun _ _ => rfl)) (hR 0 (fun _ => true) true), by rw [hvars]; rfl, by simp, ?_, ?_⟩, ?_⟩
    · intro b off hp
      have hin : MemPlace.cell b off ∈ p := by simpa using hp
      rw [hb.frozen (hlt _ hin)]
      exact hz b off (by simpa using hin)
    · intro ha
      simpa using hn ha
    · intro x hx _
      simpa using hx
end
end Go.Proofs.Ytljcndcmdphmgaa

/-
  Arguments opened to cells: flat types (numbers, bools, structs and arrays of such), and slices of them. No condition.
-/
namespace Go.Proofs.Ytljcndcmdphmgaa
open Go.ChangeShapes Go.WideShapes Go.ChangeAt Go.RowKit

/-- a cell of a kind: 'none': a bool -/
def CellIs : Option IntKind → Value → Prop
  | none, v => ∃ b, v = .bool b
  | some k, v => ∃ n, v = .int k n ∧ (Lit.int k n).wf = true

/-- the kinds of a struct's cells, from an offset on -/
def flatFields (P : Program) (K : TypeId → Option (List (Option IntKind))) : Nat → List Field → Option (List (Option IntKind))
  | _, [] => some []
  | off, f :: fs =>
    match K f.type with
    | some l => if f.offset = off ∧ l.length = P.cellsOf f.type then (flatFields P K (off + l.length) fs).map (l ++ ·) else none
    | none => none
/-- the kinds of a flat type's cells -/
def flatKinds (P : Program) : Nat → TypeId → Option (List (Option IntKind))
  | 0, _ => none
  | n + 1, t =>
    match P.underlying t with
    | some .bool => some [none]
    | some (.int k) => some [some k]
    | some (.struct fs) => flatFields P (flatKinds P n) 0 fs.toList
    | some (.array m e) =>
      match flatKinds P n e with
      | some l => if l.length = P.cellsOf e then some (List.replicate m l).flatten else none
      | none => none
    | _ => none

section
variable {H : Type} {enc : TypeId × Value → H} {P : Program} {w : World} {base : Nat} {spare : Nat → Bool} {held : Bool}

theorem flat_rep {l : List (Option IntKind)} {cs : List Value} : ∀ (m off : Nat) (_h : ∀ i, i < m → ∀ (j : Nat) (k : Option IntKind), l[j]? = some k → ∃ v, cs[off + i * l.length + j]? = some v ∧ CellIs k v) (i : Nat) (k : Option IntKind),
    (List.replicate m l).flatten[i]? = some k → ∃ v, cs[off + i]? = some v ∧ CellIs k v
  | 0, _, _, i, k, hk => by simp at hk
  | m + 1, off, h, i, k, hk => by
    rw [List.replicate_succ, List.flatten_cons] at hk
    by_cases hi : i < l.length
    · rw [List.getElem?_append_left hi] at hk
      have := h 0 (by omega) i k hk
      simpa using this
    · rw [List.getElem?_append_right (by omega)] at hk
      have h' : ∀ i, i < m → ∀ (j : Nat) (k : Option IntKind), l[j]? = some k → ∃ v, cs[(off + l.length) + i * l.length + j]? = some v ∧ CellIs k v := fun i' hi' j k' hk' => by
        have := h (i' + 1) (by omega) j k' hk'
        rwa [show off + (i' + 1) * l.length + j = off + l.length + i' * l.length + j from by rw [Nat.succ_mul]; omega] at this
      have := flat_rep m (off + l.length) h' (i - l.length) k hk
      rwa [show off + l.length + (i - l.length) = off + i from by omega] at this

theorem flat_fields {cs : List Value} {K : TypeId → Option (List (Option IntKind))} : ∀ (fs : List Field) (off : Nat) (ks : List (Option IntKind)), flatFields P K off fs = some ks →
    (∀ f ∈ fs, ∀ l, K f.type = some l → l.length = P.cellsOf f.type → ∀ (j : Nat) (k : Option IntKind), l[j]? = some k → ∃ v, cs[f.offset + j]? = some v ∧ CellIs k v) →
    ∀ (i : Nat) (k : Option IntKind), ks[i]? = some k → ∃ v, cs[off + i]? = some v ∧ CellIs k v
  | [], off, ks, hks, _, i, k, hk => by
    simp only [flatFields, Option.some.injEq] at hks
    subst hks
    simp at hk
  | f :: fs, off, ks, hks, hf, i, k, hk => by
    simp only [flatFields] at hks
    split at hks
    · rename_i l hl
      split at hks
      · rename_i hc
        obtain ⟨r, hr, rfl⟩ := Option.map_eq_some_iff.1 hks
        by_cases hi : i < l.length
        · rw [List.getElem?_append_left hi] at hk
          have := hf f List.mem_cons_self l hl hc.2 i k hk
          rwa [hc.1] at this
        · rw [List.getElem?_append_right (by omega)] at hk
          have := flat_fields fs (off + l.length) r hr (fun g hg => hf g (List.mem_cons_of_mem _ hg)) (i - l.length) k hk
          rwa [show off + l.length + (i - l.length) = off + i from by omega] at this
      · cases hks
    · cases hks

theorem take_drop_get {cs : List Value} {a n j : Nat} {v : Value} (h : ((cs.drop a).take n)[j]? = some v) : cs[a + j]? = some v := by
  rw [List.getElem?_take] at h
  split at h
  · rwa [List.getElem?_drop] at h
  · cases h

/-- what is read of a flat type: each cell is of its kind -/
theorem trod_flat : ∀ (fuel n : Nat) (t : TypeId) (cs : List Value) (x : DataW H × List MemPlace) (ks : List (Option IntKind)), DataW.trod enc P w base spare held fuel t cs = some x → flatKinds P n t = some ks →
    ∀ (i : Nat) (k : Option IntKind), ks[i]? = some k → ∃ v, cs[i]? = some v ∧ CellIs k v
  | 0, _, _, _, _, _, h, _ => by simp [DataW.trod] at h
  | fuel + 1, 0, _, _, _, _, _, hk => by simp [flatKinds] at hk
  | fuel + 1, n + 1, t, cs, x, ks, h, hks => by
    intro i k hk
    unfold flatKinds at hks
    split at hks
    · rename_i hu
      simp only [Option.some.injEq] at hks
      subst hks
      unfold DataW.trod at h
      rw [hu] at h
      match cs, h with
      | [.bool b], _ =>
        match i, hk with
        | 0, hk => simp at hk; subst hk; exact ⟨_, rfl, b, rfl⟩
        | i + 1, hk => simp at hk
    · rename_i q hu
      simp only [Option.some.injEq] at hks
      subst hks
      unfold DataW.trod at h
      rw [hu] at h
      match cs, h with
      | [.int k' z], h =>
        simp only at h
        split at h
        · rename_i hc
          match i, hk with
          | 0, hk => simp at hk; subst hk; exact ⟨_, rfl, z, by rw [hc.1], hc.2⟩
          | i + 1, hk => simp at hk
        · cases h
    · rename_i fs hu
      obtain ⟨xs, m, hm, _, hcl, _, hf⟩ := DataW.trod_struct hu h
      obtain rfl : fuel = m := by omega
      have := flat_fields (cs := cs) fs.toList 0 ks hks (fun f hfm l hl hlc j k' hk' => by
        obtain ⟨i', hi', hfi⟩ := List.getElem_of_mem hfm
        have hfi' : fs[i']? = some f := by rw [← Array.getElem?_toList, List.getElem?_eq_getElem hi', hfi]
        have ht := hf i' f hfi'
        have hlt : i' < xs.length := by have : i' < fs.size := by simpa using hi'
                                        omega
        rw [List.getElem?_eq_getElem hlt] at ht
        obtain ⟨v, hv, hc⟩ := trod_flat fuel n f.type _ _ l ht hl j k' hk'
        exact ⟨v, take_drop_get hv, hc⟩) i k hk
      simpa using this
    · rename_i m e hu
      split at hks
      · rename_i l hl
        split at hks
        · rename_i hlc
          simp only [Option.some.injEq] at hks
          subst hks
          unfold DataW.trod at h
          rw [hu] at h
          have h2 : ∃ xs, (List.range m).mapM (fun i => DataW.trod enc P w base spare held fuel e ((cs.drop (i * P.cellsOf e)).take (P.cellsOf e))) = some xs := by
            split at h <;> simp_all
            obtain ⟨_, xs, hx, _⟩ := h
            exact ⟨xs, hx⟩
          obtain ⟨xs, hx⟩ := h2
          have := flat_rep (l := l) (cs := cs) m 0 (fun i' hi' j k' hk' => by
            have hg := mapM_some_get hx i' i' (by simp [hi'])
            have hlen := mapM_some_length hx
            have hlt : i' < xs.length := by simpa [hlen] using hi'
            rw [List.getElem?_eq_getElem hlt] at hg
            obtain ⟨v, hv, hc⟩ := trod_flat fuel n e _ _ l hg hl j k' hk'
            refine ⟨v, ?_, hc⟩
            rw [hlc]
            simpa using take_drop_get hv) i k hk
          simpa using this
        · cases hks
      · cases hks
    · cases hks

/-- an argument of a struct's or an array's type is an aggregate of so many cells -/
theorem arg_agg {r : Reach} {b0 : Nat} {t : TypeId} {v : Value} (hu : (match P.underlying t with | some (.struct _) | some (.array _ _) => true | _ => false) = true) (hv : Value.okWide P w r b0 t v) :
    ∃ cs : Array Value, v = .agg cs ∧ cs.size = P.cellsOf t := by
  unfold Value.okWide at hv
  split at hv
  · obtain ⟨cs, h1, h2, _⟩ := hv; exact ⟨cs, h1, h2⟩
  · obtain ⟨cs, h1, h2, _⟩ := hv; exact ⟨cs, h1, h2⟩
  · rename_i h1 h2
    split at hu
    · rename_i q hq; exact absurd hq (h1 q)
    · rename_i q r hq; exact absurd hq (h2 q r)
    · cases hu
/-- ... each of its cells is of its kind -/
theorem open_flat {r : Reach} {b0 : Nat} {t : TypeId} {v : Value} {d : DataW H} {p : List MemPlace} (n : Nat) {ks : List (Option IntKind)} (hu : (match P.underlying t with | some (.struct _) | some (.array _ _) => true | _ => false) = true)
    (hks : flatKinds P n t = some ks) (hv : Value.okWide P w r b0 t v) (h : DataW.Trod enc P w base spare held t v d p) :
    ∃ cs : Array Value, v = .agg cs ∧ cs.size = P.cellsOf t ∧ ∀ (i : Nat) (k : Option IntKind), ks[i]? = some k → ∃ u, cs[i]? = some u ∧ CellIs k u := by
  obtain ⟨cs, rfl, hs⟩ := arg_agg hu hv
  obtain ⟨fuel, hf⟩ := h
  refine ⟨cs, rfl, hs, fun i k hk => ?_⟩
  obtain ⟨u, h1, h2⟩ := trod_flat fuel n t _ _ ks hf hks i k hk
  exact ⟨u, by simpa [Value.cells] using h1, h2⟩
/-- a slice of a flat type: each cell of each element is of its kind -/
theorem open_slice_flat {t e : TypeId} {v : Value} {d : DataW H} {p : List MemPlace} (n : Nat) {ks : List (Option IntKind)} (ht : P.underlying t = some (.slice e)) (hks : flatKinds P n e = some ks) (hone : v.cells.toList = [v])
    (h : DataW.Trod enc P w base spare held t v d p) (_hlt : ∀ x ∈ p, x.block < w.heap.size) (hpos : 0 < P.cellsOf e) :
    v = .slice none 0 0 ∨ ∃ (a : Addr) (len cap : Nat), v = .slice (some a) len cap ∧ len ≤ cap ∧ cap ≤ maxLen ∧ (0 < len → a.block < w.heap.size) ∧
      ∀ i, i < len → ∀ (j : Nat) (k : Option IntKind), ks[j]? = some k → ∃ u, w.cell? (a.add (i * P.cellsOf e + j)) = some u ∧ CellIs k u := by
  obtain ⟨fuel, hf⟩ := h
  rw [hone] at hf
  rcases Deep.open_slice ht hf with ⟨h0, _⟩ | ⟨a, len, cap, m, n', D, Pl, hcs, hb, hl, hm, hmm, hx, hi⟩
  · left; simpa using h0
  · right
    refine ⟨a, len, cap, by simpa using hcs, hl, hm, ?_, ?_⟩
    · intro hpos'
      have hml : len ≤ m := by rw [hmm]; split <;> omega
      obtain ⟨cs', hc, _⟩ := hi 0 (by omega)
      obtain ⟨_, hcl, hat⟩ := World.cells?_some hc
      have h0 := hat 0 (by omega)
      have h1 : cs'[0]? = some (cs'[0]'(by omega)) := List.getElem?_eq_getElem (by omega)
      rw [h1] at h0
      have := block_lt_of_cell h0
      simpa [Addr.add] using this
    · intro i hil j k hk
      have hml : len ≤ m := by rw [hmm]; split <;> omega
      obtain ⟨cs', hc, ht'⟩ := hi i (by omega)
      obtain ⟨u, hu, hcell⟩ := trod_flat n' n e cs' _ ks ht' hks j k hk
      obtain ⟨_, hcl, hat⟩ := World.cells?_some hc
      have hj : j < P.cellsOf e := by
        have := (List.getElem?_eq_some_iff.1 hu).1
        omega
      have := hat j hj
      rw [← Go.Deep.add_add, this, hu]
      exact ⟨u, rfl, hcell⟩

/-- a slice's elements, cell by cell, are of their kinds -/
def FlatAt (W : World) (ks : List (Option IntKind)) (A : Option Addr) (len : Nat) : Prop :=
  0 < len → ∃ B o, A = some ⟨B, o, none⟩ ∧ B < W.heap.size ∧ ∀ i, i < len → ∀ (j : Nat) (k : Option IntKind), ks[j]? = some k → ∃ u, W.cell? ⟨B, o + i * ks.length + j, none⟩ = some u ∧ CellIs k u
theorem open_slice_at {t e : TypeId} {v : Value} {d : DataW H} {p : List MemPlace} (n : Nat) {ks : List (Option IntKind)} (ht : P.underlying t = some (.slice e)) (hks : flatKinds P n e = some ks) (hlen : P.cellsOf e = ks.length) (hpos : 0 < ks.length) (hone : v.cells.toList = [v])
    (h : DataW.Trod enc P w base spare held t v d p) (hlt : ∀ x ∈ p, x.block < w.heap.size) :
    ∃ (A : Option Addr) (len cap : Nat), v = .slice A len cap ∧ len ≤ cap ∧ cap ≤ maxLen ∧ FlatAt w ks A len := by
  rcases open_slice_flat n ht hks hone h hlt (by omega) with rfl | ⟨a, len, cap, rfl, hl, hm, hb, hc⟩
  · exact ⟨none, 0, 0, rfl, Nat.le_refl _, by unfold maxLen; omega, fun h => absurd h (by omega)⟩
  · refine ⟨some a, len, cap, rfl, hl, hm, fun hp => ?_⟩
    obtain ⟨u, hu, _⟩ := hc 0 hp 0 (ks[0]'(by omega)) (List.getElem?_eq_getElem (by omega))
    have hs : a.spot = none := by
      have h0 : a.add (0 * P.cellsOf e + 0) = a := by simp [Addr.add]
      rw [h0] at hu
      unfold World.cell? at hu
      split at hu
      · split at hu
        · cases hu
        · simpa using ‹¬ a.spot.isSome = true›
      · cases hu
    obtain ⟨B, o, s⟩ := a
    simp only at hs
    subst hs
    refine ⟨B, o, rfl, hb hp, fun i hi j k hk => ?_⟩
    obtain ⟨u, hu, hk'⟩ := hc i hi j k hk
    refine ⟨u, ?_, hk'⟩
    rw [← hlen]
    have e1 : (⟨B, o, none⟩ : Addr).add (i * P.cellsOf e + j) = ⟨B, o + (i * P.cellsOf e + j), none⟩ := by
      unfold Addr.add
      split
      · rename_i h0; rw [h0]; rfl
      · rfl
    rw [e1] at hu
    rw [show o + i * P.cellsOf e + j = o + (i * P.cellsOf e + j) from by omega]
    exact hu
/-- an argument of a slice's type is one cell -/
theorem arg_slice {r : Reach} {b0 : Nat} {t e : TypeId} {v : Value} (ht : P.underlying t = some (.slice e)) (hv : Value.okWide P w r b0 t v) : v.cells.toList = [v] := by
  unfold Value.okWide at hv
  rw [ht] at hv
  simp only at hv
  unfold Cell.okWide at hv
  rw [ht] at hv
  cases v <;> first | rfl | (simp [Cell.ok, ht] at hv)
/-- a block of numbers is a slice of structs of numbers -/
theorem flatAt_of {W : World} {g : Nat} {T : TypeId} {l : List Int} {n len : Nat} (hg : W.heap[g]? = some (.cells (l.map fun x => Value.int .i64 x).toArray T (0, 0))) (hl : len * n ≤ l.length) (hwf : ∀ x ∈ l, (Lit.int .i64 x).wf = true) :
    FlatAt W (List.replicate n (some .i64)) (some ⟨g, 0, none⟩) len := by
  intro _
  refine ⟨g, 0, rfl, heap_lt hg, fun i hi j k hk => ?_⟩
  have hj : j < n := by have := (List.getElem?_eq_some_iff.1 hk).1; simpa using this
  have hk' : k = some .i64 := by
    rw [List.getElem?_replicate, if_pos hj] at hk
    exact (Option.some.inj hk).symm
  subst hk'
  rw [List.length_replicate]
  have hlt : 0 + i * n + j < l.length := by
    have : (i + 1) * n ≤ len * n := Nat.mul_le_mul_right _ hi
    rw [Nat.succ_mul] at this
    omega
  refine ⟨.int .i64 l[0 + i * n + j], ?_, _, rfl, hwf _ (List.getElem_mem hlt)⟩
  simp [World.cell?, hg, List.getElem?_eq_getElem (show i * n + j < l.length by omega)]
end
end Go.Proofs.Ytljcndcmdphmgaa

/-
  Slices of structs whose fields are numbers, as one list of numbers: append, and reading one as an argument.
-/
namespace Go.Proofs.Ytljcndcmdphmgaa
open Go.RowKit

section
variable {P : Program} {W w : World} {m bs : List (Nat × Obj)} {v xv : Value} {l l' : List Int} {e size n k bytes : Nat}
/-- append, of structs: t the slice's type, e the element's -/
theorem wpList_app_dos {ops : Array Oper} {rest : List Oper} {o : Oper} {a : Act} {Q : Exit → Act → World → Prop} (hgd : o.guard = none) (s x : Operand) (t : TypeId)
    (ho : o.op = .call { callee := .builtin .append, args := #[s, x], argTypes := #[t, t] }) (hes : a.eval s = v) (hex : a.eval x = xv)
    (z : Value) (hinfo : (P.info? e).map (fun i => (i.zero, i.size, i.bytes)) = some (some z, size, bytes)) (ht : P.underlying t = some (.slice e)) (hzs : z.cells.size = size) (hsz : 0 < size) (hb : bytes ≤ 200)
    (hs : SlO true e size v n (ints l) bs) (hO : Own W (bs ++ m) w) (hx : Src w size xv k (ints l')) (hlen : n + k ≤ 60000)
    (h : ∀ v' w' bs', SlO true e size v' (n + k) (ints (l ++ l')) bs' → Own W (bs' ++ m) w' → wpList P ops Q rest (a.put o.dst v') w') :
    wpList P ops Q (o :: rest) a w := by
  obtain ⟨i, hi, hz, hsz', hby⟩ := info_get hinfo
  have hbb : (n + k) * bytes ≤ 60000 * 200 := Nat.mul_le_mul hlen hb
  refine wpList_app hgd s x t ho hes hex e i z size bytes ht hi hz hsz' hby hzs hsz hs hO hx (ints_one l') (by unfold maxLen; omega) (by omega) fun v' w' bs' h1 h2 h3 => ?_
  rw [ints_append] at h1
  exact h v' w' bs' h1 h2

/-- structs that the code writes down, in a block of their own -/
theorem src_lit (w : World) (e : TypeId) (size n : Nat) (l : List Int) (hl : l.length = n * size) :
    Src (w.alloc (.cells (ints l).toArray e)) size (.slice (some ⟨w.heap.size, 0, none⟩) n n) n (ints l) := by
  refine ⟨by simpa [ints] using hl, .inr ⟨_, _, rfl, fun j u hj => ?_⟩⟩
  rw [add_lit0]
  simp [hj]

/-- a slice that is owned, read as an argument -/
theorem flatAt_own {ex : Bool} (hs : SlO ex e size v n (ints l) bs) (hO : Own W (bs ++ m) w) (hwf : ∀ x ∈ l, (Lit.int .i64 x).wf = true) {A : Option Addr} {c : Nat} (hv : v = .slice A n c) :
    FlatAt w (List.replicate size (some .i64)) A n := by
  intro hn
  obtain ⟨g, cap, cur, hv', -⟩ := hs.form hn
  rw [hv] at hv'
  cases hv'
  refine ⟨g, 0, rfl, hs.lt hO hv, fun i hi j k hk => ?_⟩
  have hj : j < size := by have := (List.getElem?_eq_some_iff.1 hk).1; simpa using this
  have hk' : k = some .i64 := by
    rw [List.getElem?_replicate, if_pos hj] at hk
    exact (Option.some.inj hk).symm
  subst hk'
  rw [List.length_replicate]
  have hlen := hs.len
  have hlt : 0 + i * size + j < l.length := by
    have h1 : (i + 1) * size ≤ n * size := Nat.mul_le_mul_right _ hi
    rw [Nat.succ_mul] at h1
    simp [ints] at hlen
    omega
  exact ⟨.int .i64 l[0 + i * size + j], hs.cell hO hv (ints_get (List.getElem?_eq_getElem hlt)), _, rfl, hwf _ (List.getElem_mem hlt)⟩
end
end Go.Proofs.Ytljcndcmdphmgaa

/-
  Slices of pages that the call owns; slices.Clone of pages; a page is stored.
-/
namespace Go.Proofs.Ytljcndcmdphmgaa
open Go.RowKit
theorem page_info : (Try.prog.info? 24).map (fun i => (i.zero, i.size, i.bytes)) = some (some (.agg #[.int .i64 0, .int .i64 0, .int .i64 0]), 3, 24) := by kernel_rfl
theorem flat3_inv : ∀ {l : List Pg} {j : Nat} {u : Int}, (flat3 l)[j]? = some u → ∃ i p, l[i]? = some p ∧ (j = i * 3 ∧ u = p.1 ∨ j = i * 3 + 1 ∧ u = p.2.1 ∨ j = i * 3 + 2 ∧ u = p.2.2)
  | [], j, u, h => by simp [flat3] at h
  | p :: l, 0, u, h => ⟨0, p, rfl, .inl ⟨rfl, by simpa [flat3] using h.symm⟩⟩
  | p :: l, 1, u, h => ⟨0, p, rfl, .inr (.inl ⟨rfl, by simpa [flat3] using h.symm⟩)⟩
  | p :: l, 2, u, h => ⟨0, p, rfl, .inr (.inr ⟨rfl, by simpa [flat3] using h.symm⟩)⟩
  | p :: l, j + 3, u, h => by
    obtain ⟨i, q, hq, hh⟩ := flat3_inv (l := l) (j := j) (u := u) (by simpa [flat3] using h)
    exact ⟨i + 1, q, by simpa using hq, by omega⟩
theorem flat3_append : ∀ (a b : List Pg), flat3 (a ++ b) = flat3 a ++ flat3 b
  | [], b => rfl
  | p :: a, b => by simp [flat3, flat3_append a b]
theorem flat3_set : ∀ (l : List Pg) (j : Nat) (p : Pg), flat3 (l.set j p) = (((flat3 l).set (j * 3) p.1).set (j * 3 + 1) p.2.1).set (j * 3 + 2) p.2.2
  | [], j, p => by simp [flat3]
  | q :: l, 0, p => by simp [flat3]
  | q :: l, j + 1, p => by
    rw [show (j + 1) * 3 = j * 3 + 1 + 1 + 1 from by omega]
    simp [flat3, flat3_set l j p]
/-- a slice of pages that the call owns -/
abbrev PgO (ex : Bool) (v : Value) (L : List Pg) (bs : List (Nat × Obj)) : Prop := SlO ex 24 3 v L.length (ints (flat3 L)) bs
section
variable {W w : World} {m bs : List (Nat × Obj)} {v : Value} {L : List Pg} {ex : Bool}
theorem PgS.src (h : PgS w v L) (hL : 0 < L.length) : Src w 3 v L.length (ints (flat3 L)) := by
  obtain ⟨A, c, rfl, h1, h2, h3⟩ := h
  obtain ⟨g, o, rfl, hA⟩ := h3 hL
  refine ⟨by rw [ints_len, flat3_len], .inr ⟨_, _, rfl, fun j u hj => ?_⟩⟩
  rw [add_lit]
  unfold ints at hj
  rw [List.getElem?_map] at hj
  obtain ⟨n, hn, rfl⟩ := Option.map_eq_some_iff.1 hj
  obtain ⟨i, p, hp, hh⟩ := flat3_inv hn
  obtain ⟨q0, q1, q2⟩ := hA.2 i p hp
  rcases hh with ⟨rfl, rfl⟩ | ⟨rfl, rfl⟩ | ⟨rfl, rfl⟩
  · exact q0
  · rw [← Nat.add_assoc]; exact q1
  · rw [← Nat.add_assoc]; exact q2
theorem PgO.read (hs : PgO ex v L bs) (hO : Own W (bs ++ m) w) : PgS w v L := by
  obtain ⟨A, c, rfl, h1, h2⟩ := hs.slice
  refine ⟨A, c, rfl, h1, h2, fun hp => ?_⟩
  obtain ⟨g, cap, cur, hv, -⟩ := hs.form hp
  refine ⟨g, 0, by cases hv; rfl, hs.lt hO hv, fun j p hj => ?_⟩
  obtain ⟨f0, f1, f2⟩ := flat3_get hj
  rw [Nat.zero_add]
  exact ⟨hs.cell hO hv (ints_get f0), hs.cell hO hv (ints_get f1), hs.cell hO hv (ints_get f2)⟩
set_option maxHeartbeats 400000 in
theorem cloneP_spec (h : Own W m w) (hv : PgS w v L) (hL : 0 < L.length) (hlen : L.length ≤ 60000) :
    Calls Try.prog 50 #[v] w fun e w' => ∃ v' bs', e = .returned v' ∧ PgO true v' L bs' ∧ Own W (bs' ++ m) w' := by
  have hsrc := hv.src hL
  obtain ⟨A, c, rfl, h1, h2, h3⟩ := hv
  obtain ⟨g, o, rfl, hA⟩ := h3 hL
  clear h3
  have he := Lib.run_eql_slice_nil (P := Try.prog) w 22 24 (some ⟨g, o, none⟩) L.length c 0 0 Try.underlying22
  have hn := h.new (.cells #[] 24)
  have hs0 : PgO true (.slice (some ⟨w.heap.size, 0, none⟩) 0 0) [] [(w.heap.size, .cells #[] 24)] := SlO.made true 24 3 w.heap.size 0 #[] 0 (Nat.le_refl _) (by unfold maxLen; omega) rfl
  have hx := hsrc.below (w' := w.alloc (.cells #[] 24)) ((Below.refl _ _).alloc (Nat.le_refl _) _)
  clear hsrc hA
  obtain ⟨N, hN⟩ : ∃ N, L.length = N := ⟨_, rfl⟩
  have HN := Lib.hid hN
  rw [hN] at hx he hlen hL h1 ⊢
  clear hN
  go_enter Try.func50, Try.ntmps50
  go_wp2_with (at_builtin; refine wpList_app_dos rfl _ _ 22 rfl rfl rfl _ page_info Try.underlying22 rfl (by omega) (by omega) (n := 0) (l := []) hs0 hn hx (by omega) ?_; intro v' w' bs' h1 h2; have H1 := Lib.hid h1; clear h1)
  go_ret
  refine ⟨_, bs', rfl, ?_, h2⟩
  have := H1.out
  rw [Nat.zero_add, List.nil_append] at this
  unfold PgO
  rw [HN.out]
  exact this
theorem pg_cells (hs : PgO ex v L bs) (hO : Own W (bs ++ m) w) {g cap n : Nat} (hv : v = .slice (some ⟨g, 0, none⟩) n cap) (hn : n = L.length) {j : Nat} {p : Pg} (hj : L[j]? = some p) :
    w.cell? ⟨g, j * 3, none⟩ = some (.int .i64 p.1) ∧ w.cell? ⟨g, j * 3 + 1, none⟩ = some (.int .i64 p.2.1) ∧ w.cell? ⟨g, j * 3 + 2, none⟩ = some (.int .i64 p.2.2) ∧
      w.frozen? ⟨g, j * 3, none⟩ = false ∧ w.frozen? ⟨g, j * 3 + 1, none⟩ = false ∧ w.frozen? ⟨g, j * 3 + 2, none⟩ = false := by
  subst hn
  obtain ⟨f0, f1, f2⟩ := flat3_get hj
  exact ⟨hs.cell hO hv (ints_get f0), hs.cell hO hv (ints_get f1), hs.cell hO hv (ints_get f2), hs.free hO hv _, hs.free hO hv _, hs.free hO hv _⟩
/-- a page is stored -/
theorem pg_store (hs : PgO ex v L bs) (hO : Own W (bs ++ m) w) {g cap n : Nat} (hv : v = .slice (some ⟨g, 0, none⟩) n cap) (hn : n = L.length) {j : Nat} (hj : j < L.length) (p : Pg) :
    ∃ bs', PgO ex v (L.set j p) bs' ∧ Own W (bs' ++ m) (((w.setCell ⟨g, j * 3, none⟩ (.int .i64 p.1)).setCell ⟨g, j * 3 + 1, none⟩ (.int .i64 p.2.1)).setCell ⟨g, j * 3 + 2, none⟩ (.int .i64 p.2.2)) := by
  subst hn
  obtain ⟨b1, h1, o1⟩ := SlO.store hs hO hv (j := j * 3) (by omega) (.int .i64 p.1)
  obtain ⟨b2, h2, o2⟩ := SlO.store h1 o1 hv (j := j * 3 + 1) (by omega) (.int .i64 p.2.1)
  obtain ⟨b3, h3, o3⟩ := SlO.store h2 o2 hv (j := j * 3 + 2) (by omega) (.int .i64 p.2.2)
  refine ⟨b3, ?_, o3⟩
  unfold PgO
  rw [List.length_set, flat3_set, ← ints_set, ← ints_set, ← ints_set]
  exact h3
end
/-- the table while Set writes it -/
def pgPutK (L : List Pg) (p : Nat) (x : Pg) : Nat → List Pg
  | 0 => L.set p x
  | k + 1 => (pgPutK L p x k).set (p + 1 + k) pgIn
theorem pgPutK_len (L : List Pg) (p : Nat) (x : Pg) : ∀ k, (pgPutK L p x k).length = L.length
  | 0 => by simp [pgPutK]
  | k + 1 => by simp [pgPutK, pgPutK_len L p x k]
theorem pgPutK_get (L : List Pg) (p : Nat) (x : Pg) (i : Nat) : ∀ k, p + 1 + k ≤ L.length → (pgPutK L p x k)[i]? = if i = p then some x else if p < i ∧ i < p + 1 + k then some pgIn else L[i]?
  | 0, h => by
    unfold pgPutK
    rw [List.getElem?_set]
    by_cases hi : p = i
    · subst hi; simp; omega
    · rw [if_neg hi, if_neg (by omega), if_neg (by omega)]
  | k + 1, h => by
    unfold pgPutK
    rw [List.getElem?_set, pgPutK_get L p x i k (by omega), pgPutK_len]
    by_cases hi : p + 1 + k = i
    · subst hi
      rw [if_pos rfl, if_pos (by omega), if_neg (by omega), if_pos (by omega)]
    · rw [if_neg hi]
      by_cases h2 : i = p
      · rw [if_pos h2, if_pos h2]
      · rw [if_neg h2, if_neg h2]
        by_cases h3 : p < i ∧ i < p + 1 + k
        · rw [if_pos h3, if_pos (by omega)]
        · rw [if_neg h3, if_neg (by omega)]
theorem pgPutK_put {L : List Pg} {p : Nat} {x : Pg} (h : p + pgSize x ≤ L.length) : pgPutK L p x (pgSize x - 1) = pgPut L p x := by
  have := pgSize_pos x
  apply List.ext_getElem?
  intro i
  rw [pgPutK_get _ _ _ _ _ (by omega), pgPut_get h]
  rw [show p + 1 + (pgSize x - 1) = p + pgSize x from by omega]
end Go.Proofs.Ytljcndcmdphmgaa

/-
  Contracts: buddy's block.size, block.other, none, free, lay.
-/
namespace Go.Proofs.Ytljcndcmdphmgaa
open Go.RowKit
attribute [local go_sem ↓] Go.wp_at_zero Go.wp_at_succ
/-- buddies: a block with a slice of pages, which is owned -/
def BdO (pb : Nat) (L : List Pg) (bl : List (Nat × Obj)) : Prop := ∃ v bs, PgO false v L bs ∧ bl = (pb, .cells #[v] 61) :: bs
section
variable {W w : World} {m bl : List (Nat × Obj)} {pb : Nat} {L : List Pg}
theorem pow_nat {s : Nat} (h : s ≤ 10) : ∃ M : Nat, 2 ^ s = M ∧ (2 : Int) ^ s = (M : Int) ∧ 1 ≤ M ∧ M ≤ 1024 := by
  have hpw : (2 : Nat) ^ s ≤ 2 ^ 10 := Nat.pow_le_pow_right (by omega) h
  exact ⟨2 ^ s, rfl, by simp, Nat.one_le_two_pow, by omega⟩
set_option maxHeartbeats 400000 in
theorem size_spec (h : Own W m w) (a : Int) (s : Nat) (hs : s ≤ 10) :
    Calls Try.prog 88 #[.agg #[.int .i64 a, .int .i64 s]] w fun e w' => e = .returned (.int .i64 ((2 ^ s : Nat) : Int)) ∧ Own W m w' := by
  have hmin : min s 64 = s := by omega
  obtain ⟨M, hM, hMi, hM1, hM2⟩ := pow_nat hs
  rw [hM]
  have hw1 : IntKind.i64.wrap (M : Int) = (M : Int) := by rw [IntWalk.i64_in] <;> omega
  have hs0 : (0 : Int) ≤ s := by omega
  have h0 := h.alloc (.cells #[.int .i64 a, .int .i64 s] 102)
  clear hM
  go_enter Try.func88, Try.ntmps88
  go_wp2_with fail
  go_ret
  exact ⟨rfl, h0⟩
set_option maxHeartbeats 1000000 in
theorem other_spec (h : Own W m w) (a s : Nat) (hs : s ≤ 10) (ha : a ≤ 4096) (hal : a % 2 ^ s = 0) :
    Calls Try.prog 57 #[.agg #[.int .i64 a, .int .i64 s]] w fun e w' => e = .returned (.agg #[.int .i64 (other a s), .int .i64 s]) ∧ Own W m w' := by
  obtain ⟨M, hM, hMi, hM1, hM2⟩ := pow_nat hs
  have hx := xor_i64 a M (by omega) (by omega)
  rw [← hM, xor_other hal, hM] at hx
  have HM := Lib.hid hM
  have hb := h.new (.cells #[.int .i64 a, .int .i64 s] 102)
  have hc := hb.new (.cells #[.int .i64 0, .int .i64 0] 102)
  obtain ⟨w1, hw1⟩ : ∃ w1, (w.alloc (.cells #[.int .i64 a, .int .i64 s] 102)).alloc (.cells #[.int .i64 0, .int .i64 0] 102) = w1 := ⟨_, rfl⟩
  rw [hw1, World.size_alloc] at hc
  have q0 := hc.skip.cell List.mem_cons_self 0
  have q1 := hc.skip.cell List.mem_cons_self 1
  have r0 := hc.cell List.mem_cons_self 0
  have r1 := hc.cell List.mem_cons_self 1
  have f0 := hc.frozen List.mem_cons_self 0
  have f1 := hc.frozen List.mem_cons_self 1
  simp at q0 q1 r0 r1
  clear hM hal
  go_enter Try.func57, Try.ntmps57
  go_wp2_with fail
  go_region_held3 (fun w' => (w'.cell? ⟨w.heap.size, 0, none⟩ = some (.int .i64 a) ∧ w'.cell? ⟨w.heap.size, 1, none⟩ = some (.int .i64 s))) (first | assumption | go_keep)
    (first | (go_at_call 88; refine (size_spec hc.drew a s hs).mono ?_; rintro e w2 ⟨rfl, h2⟩; rw [HM.out]; have q0 := h2.skip.cell List.mem_cons_self 0; have q1 := h2.skip.cell List.mem_cons_self 1; have r0 := h2.cell List.mem_cons_self 0; have r1 := h2.cell List.mem_cons_self 1; have f0 := h2.frozen List.mem_cons_self 0; have f1 := h2.frozen List.mem_cons_self 1; simp at q0 q1 r0 r1))
  all_goals
    go_wp2_with fail
    have h3 := (h2.set 0 (.int .i64 (other a s))).set 1 (.int .i64 s)
    have c0 := h3.cell List.mem_cons_self 0
    have c1 := h3.cell List.mem_cons_self 1
    simp at c0 c1
    exact bodyPost_ret (v := .agg #[.int .i64 (other a s), .int .i64 s]) (by simp [results, Try.f57, go_sem, c0, c1]) rfl ⟨rfl, h3.skip.skip⟩
theorem bd_cell {v : Value} {bs : List (Nat × Obj)} (h : Own W (((pb, .cells #[v] 61) :: bs) ++ m) w) : w.cell? ⟨pb, 0, none⟩ = some v := by
  have h1 : Own W ((pb, .cells #[v] 61) :: (bs ++ m)) w := h
  simpa using h1.cell List.mem_cons_self 0
theorem bd_frozen {v : Value} {bs : List (Nat × Obj)} (h : Own W (((pb, .cells #[v] 61) :: bs) ++ m) w) : w.frozen? ⟨pb, 0, none⟩ = false := by
  have h1 : Own W ((pb, .cells #[v] 61) :: (bs ++ m)) w := h
  exact h1.frozen List.mem_cons_self 0
theorem bd_own {v : Value} {bs : List (Nat × Obj)} (h : Own W (((pb, .cells #[v] 61) :: bs) ++ m) w) : Own W (bs ++ ((pb, .cells #[v] 61) :: m)) w :=
  h.perm List.perm_middle.symm
theorem own_bd {v : Value} {bs : List (Nat × Obj)} (h : Own W (bs ++ ((pb, .cells #[v] 61) :: m)) w) : Own W (((pb, .cells #[v] 61) :: bs) ++ m) w :=
  h.perm List.perm_middle
theorem bd_read {v : Value} {bs : List (Nat × Obj)} (hs : PgO false v L bs) (h : Own W (((pb, .cells #[v] 61) :: bs) ++ m) w) : PgS w v L := PgO.read hs (bd_own h)
set_option maxHeartbeats 400000 in
theorem none_spec (h : Own W (bl ++ m) w) (hb : BdO pb L bl) (hL : 1 ≤ L.length) :
    Calls Try.prog 53 #[.pointer (some ⟨pb, 0, none⟩)] w fun e w' => e = .returned (.bool false) ∧ w = w' := by
  obtain ⟨v, bs, hs, rfl⟩ := hb
  have hc := bd_cell h
  obtain ⟨A, cap, rfl, -, -⟩ := hs.slice
  obtain ⟨N, hN⟩ : ∃ N, L.length = N := ⟨_, rfl⟩
  rw [hN] at hc hL
  have hn0 : ((N : Int) == 0) = false := by rw [beq_eq_false_iff_ne]; omega
  clear hN
  go_enter Try.func53, Try.ntmps53
  go_wp2_with fail
  go_ret
  exact ⟨rfl, rfl⟩
theorem none_nil (w : World) :
    Calls Try.prog 53 #[.pointer none] w fun e w' => e = .returned (.bool true) ∧ w = w' := by
  go_enter Try.func53, Try.ntmps53
  go_wp2_with fail
  go_ret
  exact ⟨rfl, rfl⟩
set_option maxHeartbeats 2000000 in
theorem free_no (h : Own W (bl ++ m) w) (hb : BdO pb L bl) (a : Nat) (o : Int) (ha : L.length ≤ a) :
    Calls Try.prog 56 #[.pointer (some ⟨pb, 0, none⟩), .agg #[.int .i64 a, .int .i64 o]] w fun e w' => e = .returned (.bool false) ∧ Own W (bl ++ m) w' := by
  obtain ⟨v, bs, hs, rfl⟩ := hb
  obtain ⟨A, cap, rfl, -, -⟩ := hs.slice
  have h1 := h.new (.cells #[.int .i64 a, .int .i64 o] 102)
  obtain ⟨w1, hw1⟩ : ∃ w1, w.alloc (.cells #[.int .i64 a, .int .i64 o] 102) = w1 := ⟨_, rfl⟩
  rw [hw1] at h1
  have hc := bd_cell h1.skip
  have q0 := h1.cell List.mem_cons_self 0
  have q1 := h1.cell List.mem_cons_self 1
  simp at q0 q1
  obtain ⟨N, hN⟩ : ∃ N, L.length = N := ⟨_, rfl⟩
  rw [hN] at hc ha
  have hna : decide (a < N) = false := decide_eq_false (by omega)
  clear hN h
  go_enter Try.func56, Try.ntmps56
  go_wp2_with fail
  go_quiet (fail)
  all_goals
    go_wp2_with fail
    go_ret
    exact ⟨rfl, h1.skip.drewN _⟩
set_option maxHeartbeats 4000000 in
/-- is it that free block? -/
theorem free_yes (h : Own W (bl ++ m) w) (hb : BdO pb L bl) (a : Nat) (o : Int) (p : Pg) (hp : L[a]? = some p) :
    Calls Try.prog 56 #[.pointer (some ⟨pb, 0, none⟩), .agg #[.int .i64 a, .int .i64 o]] w fun e w' => e = .returned (.bool (decide (p = (0, o, 0)))) ∧ Own W (bl ++ m) w' := by
  obtain ⟨v, bs, hs, rfl⟩ := hb
  have ha := (List.getElem?_eq_some_iff.1 hp).1
  obtain ⟨g, cap, cur, rfl, hbs, -⟩ := hs.form (by omega)
  have h1 := h.new (.cells #[.int .i64 a, .int .i64 o] 102)
  obtain ⟨w1, hw1⟩ : ∃ w1, w.alloc (.cells #[.int .i64 a, .int .i64 o] 102) = w1 := ⟨_, rfl⟩
  rw [hw1] at h1
  have hc := bd_cell h1.skip
  have q0 := h1.cell List.mem_cons_self 0
  have q1 := h1.cell List.mem_cons_self 1
  simp at q0 q1
  obtain ⟨p0, p1, p2⟩ := p
  obtain ⟨a0, a1, a2, -, -, -⟩ := pg_cells hs (bd_own h1.skip) rfl rfl hp
  simp only at a0 a1 a2
  obtain ⟨N, hN⟩ : ∃ N, L.length = N := ⟨_, rfl⟩
  rw [hN] at hc ha
  have hna : decide (a < N) = true := decide_eq_true (by omega)
  clear hN h hp
  by_cases e0 : p0 = 0
  · subst e0
    by_cases e1 : p1 = o
    · subst e1
      by_cases e2 : p2 = 0
      · subst e2
        go_enter Try.func56, Try.ntmps56
        go_wp2_with fail
        go_region_held3 (fun w' => ((w'.cell? ⟨w.heap.size, 0, none⟩ = some (.int .i64 a) ∧ w'.cell? ⟨w.heap.size, 1, none⟩ = some (.int .i64 p1)) ∧ w'.cell? ⟨pb, 0, none⟩ = some (.slice (some ⟨g, 0, none⟩) N cap)) ∧ (w'.cell? ⟨g, a * 3, none⟩ = some (.int .i64 0) ∧ w'.cell? ⟨g, a * 3 + 1, none⟩ = some (.int .i64 p1) ∧ w'.cell? ⟨g, a * 3 + 2, none⟩ = some (.int .i64 0))) (first | assumption | go_keep) (fail)
        all_goals
          go_wp2_with fail
          go_ret
          exact ⟨by simp, h1.skip.drew⟩
      · have n2 : (p2 == 0) = false := beq_eq_false_iff_ne.2 e2
        go_enter Try.func56, Try.ntmps56
        go_wp2_with fail
        go_region_held3 (fun w' => ((w'.cell? ⟨w.heap.size, 0, none⟩ = some (.int .i64 a) ∧ w'.cell? ⟨w.heap.size, 1, none⟩ = some (.int .i64 p1)) ∧ w'.cell? ⟨pb, 0, none⟩ = some (.slice (some ⟨g, 0, none⟩) N cap)) ∧ (w'.cell? ⟨g, a * 3, none⟩ = some (.int .i64 0) ∧ w'.cell? ⟨g, a * 3 + 1, none⟩ = some (.int .i64 p1) ∧ w'.cell? ⟨g, a * 3 + 2, none⟩ = some (.int .i64 p2))) (first | assumption | go_keep) (fail)
        all_goals
          go_wp2_with fail
          go_ret
          exact ⟨by simp [e2], h1.skip.drew⟩
    · have n1 : (p1 == o) = false := beq_eq_false_iff_ne.2 e1
      go_enter Try.func56, Try.ntmps56
      go_wp2_with fail
      go_region_held3 (fun w' => ((w'.cell? ⟨w.heap.size, 0, none⟩ = some (.int .i64 a) ∧ w'.cell? ⟨w.heap.size, 1, none⟩ = some (.int .i64 o)) ∧ w'.cell? ⟨pb, 0, none⟩ = some (.slice (some ⟨g, 0, none⟩) N cap)) ∧ (w'.cell? ⟨g, a * 3, none⟩ = some (.int .i64 0) ∧ w'.cell? ⟨g, a * 3 + 1, none⟩ = some (.int .i64 p1) ∧ w'.cell? ⟨g, a * 3 + 2, none⟩ = some (.int .i64 p2))) (first | assumption | go_keep) (fail)
      all_goals
        go_wp2_with fail
        go_ret
        exact ⟨by simp [e1], h1.skip.drew⟩
  · have n0 : (p0 == 0) = false := beq_eq_false_iff_ne.2 e0
    go_enter Try.func56, Try.ntmps56
    go_wp2_with fail
    go_region_held3 (fun w' => ((w'.cell? ⟨w.heap.size, 0, none⟩ = some (.int .i64 a) ∧ w'.cell? ⟨w.heap.size, 1, none⟩ = some (.int .i64 o)) ∧ w'.cell? ⟨pb, 0, none⟩ = some (.slice (some ⟨g, 0, none⟩) N cap)) ∧ (w'.cell? ⟨g, a * 3, none⟩ = some (.int .i64 p0) ∧ w'.cell? ⟨g, a * 3 + 1, none⟩ = some (.int .i64 p1) ∧ w'.cell? ⟨g, a * 3 + 2, none⟩ = some (.int .i64 p2))) (first | assumption | go_keep) (fail)
    all_goals
      go_wp2_with fail
      go_ret
      exact ⟨by simp [e0], h1.skip.drew⟩
end
end Go.Proofs.Ytljcndcmdphmgaa
