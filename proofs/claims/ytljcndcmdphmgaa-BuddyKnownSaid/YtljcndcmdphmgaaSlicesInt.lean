/-
  slices.Clone, slices.Index, slices.Contains at []int.
-/
import Derived.Test.YtljcndcmdphmgaaSlice
namespace Go.Proofs.Ytljcndcmdphmgaa
open Go.RowKit

theorem int_info : (Try.prog.info? 3).map (fun i => (i.zero, i.size, i.bytes)) = some (some (.int .i64 0), 1, 8) := by kernel_rfl
/-- numbers as values -/
def ints (l : List Int) : List Value := l.map fun n => .int .i64 n
theorem ints_len (l : List Int) : (ints l).length = l.length := by simp [ints]
theorem ints_get {l : List Int} {i : Nat} {n : Int} (h : l[i]? = some n) : (ints l)[i]? = some (.int .i64 n) := by simp [ints, h]
theorem ints_one (l : List Int) : ∀ u ∈ ints l, u.oneCell' = true := by
  intro u hu
  obtain ⟨n, _, rfl⟩ := List.mem_map.1 hu
  rfl
theorem ints_append (a b : List Int) : ints a ++ ints b = ints (a ++ b) := by simp [ints]
theorem ints_take (l : List Int) (k : Nat) : (ints l).take k = ints (l.take k) := by simp [ints]
theorem ints_drop (l : List Int) (k : Nat) : (ints l).drop k = ints (l.drop k) := by simp [ints]
theorem ints_set (l : List Int) (k : Nat) (n : Int) : (ints l).set k (.int .i64 n) = ints (l.set k n) := by simp [ints]
/-- a slice of numbers that the call owns -/
abbrev IntsOwn (ex : Bool) (v : Value) (l : List Int) (bs : List (Nat × Obj)) : Prop := SlO ex 3 1 v l.length (ints l) bs
/-- a slice that reads as numbers -/
abbrev IntsSrc (w : World) (v : Value) (l : List Int) : Prop := Src w 1 v l.length (ints l)

section
variable {W w : World} {m bs : List (Nat × Obj)} {v x : Value} {l l' : List Int}

/-- append, of numbers: 'at_builtin; refine wpList_app_ints rfl _ _ rfl rfl rfl hs hO hx hlen ?_; intro v' w' bs' h1 h2 h3' -/
theorem wpList_app_ints {ops : Array Oper} {rest : List Oper} {o : Oper} {a : Act} {Q : Exit → Act → World → Prop} (hgd : o.guard = none) (s x : Operand)
    (ho : o.op = .call { callee := .builtin .append, args := #[s, x], argTypes := #[38, 38] }) {v xv : Value} (hes : a.eval s = v) (hex : a.eval x = xv)
    (hs : IntsOwn true v l bs) (hO : Own W (bs ++ m) w) (hx : IntsSrc w xv l') (hlen : l.length + l'.length ≤ 60000)
    (h : ∀ v' w' bs', IntsOwn true v' (l ++ l') bs' → Own W (bs' ++ m) w' → (v' = .slice none 0 0 ↔ v = .slice none 0 0 ∧ l' = []) → wpList Try.prog ops Q rest (a.put o.dst v') w') :
    wpList Try.prog ops Q (o :: rest) a w := by
  obtain ⟨i, hi, hz, hsz, hb⟩ := info_get int_info
  refine wpList_app hgd s x _ ho hes hex 3 i _ 1 8 Try.underlying38 hi hz hsz hb rfl (by omega) hs hO hx (ints_one l') (by unfold maxLen; omega) (by omega) fun v' w' bs' h1 h2 h3 => ?_
  rw [ints_append, ← List.length_append] at h1
  exact h v' w' bs' h1 h2 (by rw [h3, List.length_eq_zero_iff])

/-- one number, in a block of its own -/
theorem src_one (w : World) (p : Int) : IntsSrc (w.alloc (.cells #[.int .i64 p] 3)) (.slice (some ⟨w.heap.size, 0, none⟩) 1 1) [p] := by
  refine ⟨rfl, .inr ⟨_, _, rfl, fun j u hj => ?_⟩⟩
  rw [add_lit0]
  match j, hj with
  | 0, hj => simp [ints] at hj; subst hj; simp
  | j + 1, hj => simp [ints] at hj

set_option maxHeartbeats 400000 in
theorem clone_spec (h : Own W m w) (hv : IntsSrc w v l) (hlen : l.length ≤ 60000) :
    Calls Try.prog 99 #[v] w fun e w' => ∃ v' bs', e = .returned v' ∧ IntsOwn true v' l bs' ∧ Own W (bs' ++ m) w' := by
  rcases hv.2 with ⟨rfl, hn⟩ | ⟨a, c, rfl, hc⟩
  · have hl : l = [] := List.eq_nil_of_length_eq_zero hn
    subst hl
    have he := Lib.run_eql_slice_nil (P := Try.prog) w 38 3 none 0 0 0 0 Try.underlying38
    go_enter Try.func99, Try.ntmps99
    go_wp2
    go_ret
    exact ⟨_, [], rfl, SlO.nil _ _ _, h⟩
  · have he := Lib.run_eql_slice_nil (P := Try.prog) w 38 3 (some a) l.length c 0 0 Try.underlying38
    have hn := h.new (.cells #[] 3)
    have hs0 : IntsOwn true (.slice (some ⟨w.heap.size, 0, none⟩) 0 0) [] [(w.heap.size, .cells #[] 3)] := SlO.made true 3 1 w.heap.size 0 #[] 0 (Nat.le_refl _) (by unfold maxLen; omega) rfl
    have hx := hv.below (w' := w.alloc (.cells #[] 3)) ((Below.refl _ _).alloc (Nat.le_refl _) _)
    clear hv hc
    go_enter Try.func99, Try.ntmps99
    go_wp2_with (at_builtin; refine wpList_app_ints rfl _ _ rfl rfl rfl hs0 hn hx (by simpa using hlen) ?_; intro v' w' bs' h1 h2 h3; have H1 := Lib.hid h1; clear h1 h3)
    go_ret
    exact ⟨_, bs', rfl, H1.out, h2⟩

/-- where a number is first; -1: nowhere -/
def idxOf (l : List Int) (n : Int) : Int := match l.findIdx? (· == n) with | some i => i | none => -1
theorem idxOf_yes {l : List Int} {n : Int} {k : Nat} (hk : l[k]? = some n) (h : ∀ j, j < k → l[j]? ≠ some n) : idxOf l n = k := by
  have : l.findIdx? (· == n) = some k := by
    rw [List.findIdx?_eq_some_iff_getElem]
    obtain ⟨hlt, he⟩ := List.getElem?_eq_some_iff.1 hk
    refine ⟨hlt, by simp [he], fun j hj => ?_⟩
    have := h j hj
    rw [List.getElem?_eq_getElem (by omega)] at this
    simpa using this
  simp [idxOf, this]
theorem idxOf_no {l : List Int} {n : Int} (h : ∀ j, j < l.length → l[j]? ≠ some n) : idxOf l n = -1 := by
  have : l.findIdx? (· == n) = none := by
    rw [List.findIdx?_eq_none_iff]
    intro x hx
    obtain ⟨j, hj, rfl⟩ := List.getElem_of_mem hx
    have := h j hj
    rw [List.getElem?_eq_getElem hj] at this
    simpa using this
  simp [idxOf, this]
theorem idxOf_mem (l : List Int) (n : Int) : decide (0 ≤ idxOf l n) = decide (n ∈ l) := by
  unfold idxOf
  cases h : l.findIdx? (· == n) with
  | none =>
    rw [List.findIdx?_eq_none_iff] at h
    have : n ∉ l := fun hn => by simpa using h n hn
    simp [this]
  | some i =>
    rw [List.findIdx?_eq_some_iff_getElem] at h
    obtain ⟨hlt, he, _⟩ := h
    have : n ∈ l := by have := List.getElem_mem hlt; simp at he; rw [he] at this; exact this
    simp [this]

set_option maxHeartbeats 400000 in
theorem index_spec (hv : IntsSrc w v l) (hlen : l.length ≤ 60000) (n : Int) :
    Calls Try.prog 110 #[v, .int .i64 n] w fun e w' => e = .returned (.int .i64 (idxOf l n)) ∧ w = w' := by
  rcases hv.2 with ⟨rfl, hn⟩ | ⟨a, c, rfl, hc⟩
  · have hl : l = [] := List.eq_nil_of_length_eq_zero hn
    subst hl
    go_enter Try.func110, Try.ntmps110
    go_wp2
    go_loop [8] (fun k => k = .int .i64 0) (fun _ => 0)
    case atStart => exact rfl
    case round =>
      subst hrel
      go_wp2
      go_ret
      exact ⟨rfl, rfl⟩
  · go_enter Try.func110, Try.ntmps110
    go_wp2
    go_loop [8] (fun k => ∃ i : Nat, i ≤ l.length ∧ k = .int .i64 i ∧ ∀ j, j < i → l[j]? ≠ some n) (fun k => l.length - (intOf k).toNat)
    case atStart => exact ⟨0, Nat.zero_le _, rfl, fun j hj => absurd hj (by omega)⟩
    case round =>
      obtain ⟨i, hi, rfl, hno⟩ := hrel
      have HN := Lib.hid hno
      clear hno
      by_cases hlt : i < l.length
      · obtain ⟨y, hy⟩ : ∃ y, l[i]? = some y := ⟨_, List.getElem?_eq_getElem hlt⟩
        have cy := hc i _ (ints_get hy)
        have HY := Lib.hid hy
        clear hy hv hc
        by_cases hny : n = y
        · subst hny
          go_wp2
          go_ret
          exact ⟨by rw [idxOf_yes HY.out HN.out]; rfl, rfl⟩
        · have hb : (n == y) = false := by simpa using hny
          go_wp2
          go_round
          case rel =>
            refine ⟨i + 1, by omega, by go_num, fun j hj => ?_⟩
            by_cases hji : j < i
            · exact HN.out j hji
            · obtain rfl : j = i := by omega
              rw [HY.out]
              intro he
              exact hny (by simpa using he.symm)
          case measure => simp [intOf]; omega
      · obtain rfl : i = l.length := by omega
        clear hv hc
        go_wp2
        go_ret
        exact ⟨by rw [idxOf_no HN.out]; rfl, rfl⟩
set_option maxHeartbeats 400000 in
theorem contains_spec (hv : IntsSrc w v l) (hlen : l.length ≤ 60000) (n : Int) :
    Calls Try.prog 102 #[v, .int .i64 n] w fun e w' => e = .returned (.bool (decide (n ∈ l))) ∧ w = w' := by
  have hm := idxOf_mem l n
  have HM := Lib.hid hm
  clear hm
  go_enter Try.func102, Try.ntmps102
  go_wp2_with (go_at_call 110; refine (index_spec hv hlen n).mono ?_; rintro e w' ⟨rfl, rfl⟩)
  go_ret
  exact ⟨by rw [← HM.out]; rfl, rfl⟩
/-- a number is stored -/
theorem ints_store {ex : Bool} (hs : IntsOwn ex v l bs) (hO : Own W (bs ++ m) w) {g cap : Nat} (hv : v = .slice (some ⟨g, 0, none⟩) l.length cap) {j : Nat} (hj : j < l.length) (u : Int) :
    ∃ bs', IntsOwn ex v (l.set j u) bs' ∧ Own W (bs' ++ m) (w.setCell ⟨g, j, none⟩ (.int .i64 u)) := by
  obtain ⟨bs', h1, h2⟩ := SlO.store hs hO hv (j := j) (by omega) (.int .i64 u)
  rw [ints_set] at h1
  refine ⟨bs', ?_, h2⟩
  unfold IntsOwn
  rw [List.length_set]
  exact h1
theorem ints_cell {ex : Bool} (hs : IntsOwn ex v l bs) (hO : Own W (bs ++ m) w) {g cap : Nat} (hv : v = .slice (some ⟨g, 0, none⟩) l.length cap) {j : Nat} {n : Int} (hj : l[j]? = some n) : w.cell? ⟨g, j, none⟩ = some (.int .i64 n) :=
  SlO.cell hs hO hv (ints_get hj)
end
end Go.Proofs.Ytljcndcmdphmgaa
