/-
  What the functions of wainscotref07 do: each once.
-/
import Derived.Test.YtpmnababdjdniaaNear3
namespace Go.Proofs.Ytpmnababdjdniaa
open Go.RowKit

section
variable {W : World} {m : List (Nat × Obj)} {w : World} {v : Value} {l : List Int}
set_option maxHeartbeats 400000 in
theorem copy_spec (h : Own W m w) (hv : IntsSrc w v l) (hlen : l.length ≤ 60000) :
    Calls Try.prog 47 #[v] w fun e w' => ∃ v' bs', e = .returned v' ∧ IntsOwn true v' l bs' ∧ Own W (bs' ++ m) w' := by
  have h0 : Own W ([] ++ m) w := h
  have hs0 : IntsOwn true (.slice none 0 0) [] [] := SlO.nil _ _ _
  go_enter Try.func47, Try.ntmps47
  go_wp2_with (at_builtin; refine wpList_app_ints (by rfl) _ _ (by rfl) (by rfl) (by rfl) hs0 h0 hv (by simpa using hlen) ?_; intro v' w' bs' h1 h2 h3; have H1 := Lib.hid h1; clear h1 h3)
  go_ret
  exact ⟨_, bs', rfl, H1.out, h2⟩
end
namespace nref
section
variable {T : TypeId} {W : World} {m : List (Nat × Obj)} {w : World} {b bl : Nat} {lim : Int} {L : List NL}

set_option maxHeartbeats 400000 in
theorem has_in (h : Own W (nrBlocks T b bl lim L ++ m) w) (i : Nat) (hi : i < L.length) :
    Calls Try.prog 46 #[.pointer (some ⟨b, 0, none⟩), .int .i64 i] w fun e w' => e = .returned (.bool true) ∧ w = w' := by
  have c0 := nrHead h
  go_enter Try.func46, Try.ntmps46
  go_wp2
  go_ret
  exact ⟨rfl, rfl⟩
set_option maxHeartbeats 400000 in
theorem has_out (h : Own W (nrBlocks T b bl lim L ++ m) w) (cpu : Int) (hc : cpu < 0 ∨ L.length ≤ cpu) :
    Calls Try.prog 46 #[.pointer (some ⟨b, 0, none⟩), .int .i64 cpu] w fun e w' => e = .returned (.bool false) ∧ w = w' := by
  have c0 := nrHead h
  go_enter Try.func46, Try.ntmps46
  go_wp2
  all_goals go_ret
  all_goals (refine ⟨?_, rfl⟩)
  all_goals (simp; try omega)

set_option maxHeartbeats 1000000 in
theorem Has_spec (h : Own W (nrBlocks T b bl lim L ++ m) w) (ok : NrOk lim L) (n : Int) :
    Calls Try.prog 43 #[.pointer (some ⟨b, 0, none⟩), .int .i64 n] w fun e w' => e = .returned (.bool (nrHas L n)) ∧ w = w' := by
  have c0 := nrHead h
  have hl8 := ok.1
  go_enter Try.func43, Try.ntmps43
  go_wp2_with fail
  go_loop [5] (fun k => ∃ i : Nat, i ≤ L.length ∧ k = .int .i64 i ∧ ∀ j, j < i → ∀ y, L[j]? = some y → n ∉ y.xs) (fun k => L.length - (intOf k).toNat)
  case atStart => exact ⟨0, Nat.zero_le _, rfl, fun j hj => absurd hj (by omega)⟩
  case round =>
    obtain ⟨i, hi, rfl, hno⟩ := hrel
    have HN := Lib.hid hno
    clear hno
    by_cases hlt : i < L.length
    · obtain ⟨x, hx⟩ : ∃ x, L[i]? = some x := ⟨_, List.getElem?_eq_getElem hlt⟩
      have cx := nrCell h hx
      have ho := nrOut h hx
      have hok : IntsOwn true x.v x.xs x.bs := (ok.at_ hx).1
      have hl64 := (ok.at_ hx).2
      have HX := Lib.hid hx
      clear hx
      obtain ⟨A, cap, hv, hnc, hcm⟩ := SlO.slice hok
      rw [hv] at cx hok
      clear hv
      unfold maxLen at hcm
      go_wp2_with fail
      go_loop [6] (fun k => ∃ j : Nat, j ≤ x.xs.length ∧ k = .int .i64 j ∧ ∀ q, q < j → x.xs[q]? ≠ some n) (fun k => x.xs.length - (intOf k).toNat)
      case atStart => exact ⟨0, Nat.zero_le _, rfl, fun j hj => absurd hj (by omega)⟩
      case round =>
        obtain ⟨j, hj, rfl, hnq⟩ := hrel
        have HQ := Lib.hid hnq
        clear hnq
        by_cases hjl : j < x.xs.length
        · obtain ⟨g, cap', cur, hv, _, _, _, _, _⟩ := SlO.form hok (by omega)
          obtain ⟨y, hy⟩ : ∃ y, x.xs[j]? = some y := ⟨_, List.getElem?_eq_getElem hjl⟩
          have cy := SlO.cell hok ho hv (ints_get hy)
          cases hv
          have HY := Lib.hid hy
          clear hy
          by_cases hny : y = n
          · subst hny
            go_wp2_with fail
            go_ret
            refine ⟨?_, rfl⟩
            have : nrHas L y = true := by
              unfold nrHas
              rw [List.any_eq_true]
              exact ⟨x, List.mem_of_getElem? HX.out, by simpa using List.mem_of_getElem? HY.out⟩
            rw [this]; rfl
          · have hb : (y == n) = false := by simpa using hny
            go_wp2_with fail
            go_round
            case rel =>
              refine ⟨j + 1, by omega, by go_num, fun q hq => ?_⟩
              by_cases hqj : q < j
              · exact HQ.out q hqj
              · obtain rfl : q = j := by omega
                rw [HY.out]
                intro he
                exact hny (by simpa using he)
            case measure => simp [intOf]; omega
        · obtain rfl : j = x.xs.length := by omega
          go_wp2_with fail
          go_round
          case rel =>
            refine ⟨i + 1, by omega, by go_num, fun q hq y hy => ?_⟩
            by_cases hqi : q < i
            · exact HN.out q hqi y hy
            · obtain rfl : q = i := by omega
              rw [HX.out] at hy
              cases hy
              intro hmem
              obtain ⟨r, hr, he⟩ := List.getElem_of_mem hmem
              exact HQ.out r hr (by rw [List.getElem?_eq_getElem hr, he])
          case measure => simp [intOf]; omega
    · obtain rfl : i = L.length := by omega
      go_wp2_with fail
      go_ret
      refine ⟨?_, rfl⟩
      have : nrHas L n = false := by
        unfold nrHas
        rw [List.any_eq_false]
        intro x hx
        obtain ⟨j, hj, rfl⟩ := List.getElem_of_mem hx
        simpa using HN.out j hj _ (List.getElem?_eq_getElem hj)
      rw [this]; rfl
end
end nref
end Go.Proofs.Ytpmnababdjdniaa
