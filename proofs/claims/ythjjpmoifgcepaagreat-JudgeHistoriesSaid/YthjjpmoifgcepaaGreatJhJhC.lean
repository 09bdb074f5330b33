import Derived.Test.YthjjpmoifgcepaaGreatJhJhR
import Derived.Test.YthjjpmoifgcepaaGreatJh1
/-
  Contracts: wainscotref00.CopyInts, slices.Index, slices.Contains of numbers, of any length that there may be. No condition.
-/
namespace Go.Proofs.YthjjpmoifgcepaaGreat.Jh
open Go.RowKit
theorem bb_le {n k : Nat} (h : n * k ≤ BB) : n * k ≤ 140737488351232 := h
theorem bb_ints {n : Nat} (h : n * 8 ≤ BB) : (n : Int) < 9223372036854775807 := by have := bb_le h; omega
theorem wrap_succ {i n : Nat} (h : i < n) (hB : (n : Int) < 9223372036854775807) : wrap64 ((i : Int) + 1) = ((i + 1 : Nat) : Int) := by
  rw [IntWalk.wrap64_in _ (by omega)]
  omega
section
variable {W w : World} {m bs : List (Nat × Obj)} {v : Value} {l l' : List Int}
theorem wpList_app_intsB {ops : Array Oper} {rest : List Oper} {o : Oper} {a : Act} {Q : Exit → Act → World → Prop} (hgd : o.guard = none) (s x : Operand)
    (ho : o.op = .call { callee := .builtin .append, args := #[s, x], argTypes := #[22, 22] }) {v xv : Value} (hes : a.eval s = v) (hex : a.eval x = xv)
    (hs : IntsOwn true v l bs) (hO : Own W (bs ++ m) w) (hx : IntsSrc w xv l') (hlen : (l.length + l'.length) * 8 ≤ BB)
    (h : ∀ v' w' bs', IntsOwn true v' (l ++ l') bs' → Own W (bs' ++ m) w' → wpList Tryz.prog ops Q rest (a.put o.dst v') w') :
    wpList Tryz.prog ops Q (o :: rest) a w := by
  obtain ⟨i, hi, hz, hsz, hb⟩ := info_get int_info
  have hB := bb_le hlen
  refine wpList_app hgd s x _ ho hes hex 3 i _ 1 8 Tryz.underlying22 hi hz hsz hb rfl (by omega) hs hO hx (ints_one l') (by unfold maxLen; omega) (by omega) fun v' w' bs' h1 h2 _ => ?_
  rw [ints_append, ← List.length_append] at h1
  exact h v' w' bs' h1 h2
set_option maxHeartbeats 400000 in
theorem copyB (h : Own W m w) (hv : IntsB W v l) : Calls Tryz.prog 14 #[v] w fun e w' => ∃ v' bs', e = .returned v' ∧ Hid (IntsOwn true v' l bs') ∧ Own W (bs' ++ m) w' := by
  have h0 : Own W ([] ++ m) w := h
  have hs0 : IntsOwn true (.slice none 0 0) [] [] := SlO.nil _ _ _
  have hsrc := (hv.own h).1
  have hlen : (([] : List Int).length + l.length) * 8 ≤ BB := by simpa using hv.2
  clear hv
  go_enter Tryz.func14, Tryz.ntmps14
  go_wp2_with (at_builtin; refine wpList_app_intsB (by rfl) _ _ (by rfl) (by rfl) (by rfl) hs0 h0 hsrc hlen ?_; intro v' w' bs' h1 h2; have H1 := Lib.hid h1; clear h1)
  go_ret
  exact ⟨_, bs', rfl, H1, h2⟩
/-- where a number is first; -1: nowhere -/
def idxOf (l : List Int) (n : Int) : Int := match l.findIdx? (· == n) with | some i => i | none => -1
theorem idxOf_yes {l : List Int} {n : Int} {k : Nat} (hk : l[k]? = some n) (h : ∀ j, j < k → l[j]? ≠ some n) : idxOf l n = k := by
  have : l.findIdx? (· == n) = some k := by
    rw [List.findIdx?_eq_some_iff_getElem]
    obtain ⟨hlt, he⟩ := List.getElem?_eq_some_iff.1 hk
    refine ⟨hlt, by simp [he], fun j hj => ?_⟩
    have := h j hj
    rw [List.getElem?_eq_getElem (by omega)] at this
    simpa using this
  simp [idxOf, this]
theorem idxOf_no {l : List Int} {n : Int} (h : ∀ j, j < l.length → l[j]? ≠ some n) : idxOf l n = -1 := by
  have : l.findIdx? (· == n) = none := by
    rw [List.findIdx?_eq_none_iff]
    intro x hx
    obtain ⟨j, hj, rfl⟩ := List.getElem_of_mem hx
    have := h j hj
    rw [List.getElem?_eq_getElem hj] at this
    simpa using this
  simp [idxOf, this]
theorem idxOf_mem (l : List Int) (n : Int) : decide (0 ≤ idxOf l n) = decide (n ∈ l) := by
  unfold idxOf
  cases h : l.findIdx? (· == n) with
  | none =>
    rw [List.findIdx?_eq_none_iff] at h
    have : n ∉ l := fun hn => by simpa using h n hn
    simp [this]
  | some i =>
    rw [List.findIdx?_eq_some_iff_getElem] at h
    obtain ⟨hlt, he, _⟩ := h
    have : n ∈ l := by have := List.getElem_mem hlt; simp at he; rw [he] at this; exact this
    simp [this]
set_option maxHeartbeats 400000 in
theorem index_spec (hv : IntsB w v l) (n : Int) : Calls Tryz.prog 48 #[v, .int .i64 n] w fun e w' => e = .returned (.int .i64 (idxOf l n)) ∧ w = w' := by
  have HB := Lib.hid (bb_ints hv.2)
  obtain ⟨A, c, rfl⟩ := hv.form
  have HV := Lib.hid hv
  clear hv
  go_enter Tryz.func48, Tryz.ntmps48
  go_wp2
  go_loop [8] (fun k => ∃ i : Nat, i ≤ l.length ∧ k = .int .i64 i ∧ ∀ j, j < i → l[j]? ≠ some n) (fun k => l.length - (intOf k).toNat)
  case atStart => exact ⟨0, Nat.zero_le _, rfl, fun j hj => absurd hj (by omega)⟩
  case round =>
    obtain ⟨i, hi, rfl, hno⟩ := hrel
    have HN := Lib.hid hno
    clear hno
    by_cases hlt : i < l.length
    · obtain ⟨y, hy⟩ : ∃ y, l[i]? = some y := ⟨_, List.getElem?_eq_getElem hlt⟩
      obtain ⟨g, o, c', he, _, hc⟩ := HV.out.at_ (by omega)
      cases he
      have cy := hc i _ hy
      have HY := Lib.hid hy
      have hw := wrap_succ hlt HB.out
      clear hy hc
      by_cases hny : n = y
      · subst hny
        go_wp2
        go_ret
        exact ⟨by rw [idxOf_yes HY.out HN.out]; rfl, rfl⟩
      · have hb : (n == y) = false := by simpa using hny
        go_wp2
        go_round
        case rel =>
          refine ⟨i + 1, by omega, by rw [hw], fun j hj => ?_⟩
          by_cases hji : j < i
          · exact HN.out j hji
          · obtain rfl : j = i := by omega
            rw [HY.out]
            intro he
            exact hny (by simpa using he.symm)
        case measure => rw [hw]; simp [intOf]; omega
    · obtain rfl : i = l.length := by omega
      go_wp2
      go_ret
      exact ⟨by rw [idxOf_no HN.out]; rfl, rfl⟩
set_option maxHeartbeats 400000 in
theorem contains_spec (hv : IntsB w v l) (n : Int) : Calls Tryz.prog 29 #[v, .int .i64 n] w fun e w' => e = .returned (.bool (decide (n ∈ l))) ∧ w = w' := by
  have HM := Lib.hid (idxOf_mem l n)
  go_enter Tryz.func29, Tryz.ntmps29
  go_wp2_with (go_at_call 48; refine (index_spec hv n).mono ?_; rintro e w' ⟨rfl, rfl⟩)
  go_ret
  exact ⟨by rw [← HM.out]; rfl, rfl⟩
end
end Go.Proofs.YthjjpmoifgcepaaGreat.Jh
