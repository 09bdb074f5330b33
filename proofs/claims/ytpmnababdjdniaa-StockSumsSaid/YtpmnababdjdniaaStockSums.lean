/-
  wainscotlaw13.StockSums answers true, whatever it is given.
-/
import Derived.Test.YtpmnababdjdniaaStockSumsPlain
import Derived.Test.YtpmnababdjdniaaStockWorks
import Derived.Test.YtpmnababdjdniaaBring
import Derived.Test.YtpmnababdjdniaaArgs
import Derived.Test.YtpmnababdjdniaaSlice
namespace Go.Proofs.Ytpmnababdjdniaa.stockSums
open Go.RowKit

set_option maxRecDepth 100000 in
set_option maxHeartbeats 1000000 in
theorem walk (A : Option Addr) (len cap : Nat) (hlen : len ≤ maxLen) {W w : World} (hA : FlatAt W [some .i64, some .i64, some .i64, some .i64] A len) (h : Own W [] w) :
    Calls Try.prog 4 #[.slice A len cap] w fun e w' => e = .returned (.bool true) ∧ Own W [] w' := by
  unfold maxLen at hlen
  go_enter Try.func4, Try.ntmps4
  go_wp2_with fail
  refine (works_spec h).mono ?_
  rintro e w1 ⟨rfl, h1⟩
  go_wp2_with fail
  refine (new_ok h1 3 (by omega) (by omega)).mono ?_
  rintro e w2 ⟨b, bl, rfl, h2⟩
  have ok0 : StOk (List.replicate (3 : Int).toNat (0, 0)) := ⟨by decide, by decide, fun p hp => .inl (List.eq_of_mem_replicate hp)⟩
  go_wp2_with fail
  have hz : (#[.int .i64 0, .int .i64 0, .int .i64 0, .int .i64 0, .int .i64 0, .int .i64 0, .int .i64 0, .int .i64 0, .int .i64 0, .int .i64 0, .int .i64 0, .int .i64 0, .int .i64 0, .int .i64 0, .int .i64 0, .int .i64 0, .int .i64 0] : Array Value) = rowOf 17 (fun g => stHeld (List.replicate (3 : Int).toNat (0, 0)) g) := by rfl
  have h3 := h2.new1 (.cells #[.int .i64 0, .int .i64 0, .int .i64 0, .int .i64 0, .int .i64 0, .int .i64 0, .int .i64 0, .int .i64 0, .int .i64 0, .int .i64 0, .int .i64 0, .int .i64 0, .int .i64 0, .int .i64 0, .int .i64 0, .int .i64 0, .int .i64 0] 38)
  rw [hz] at h3 ⊢
  clear hz
  generalize hhb : w2.heap.size = hb at h3 ⊢
  clear hhb
  go_loopw [6] (fun i wr => ∃ k : Nat, k ≤ len ∧ k ≤ 150 ∧ i = .int .i64 k ∧ ∃ l, StOk l ∧ l.length = 3 ∧ Own W (stBlocks b bl l ++ (hb, .cells (rowOf 17 (fun g => stHeld l g)) 38) :: []) wr) (fun i _ => 150 - (intOf i).toNat)
  case atStart => exact ⟨0, by omega, by omega, rfl, _, ok0, by decide, h3⟩
  case round =>
    obtain ⟨k, hk, hk1, rfl, l, ok, hl3, hr⟩ := hrel
    by_cases hlt : k < len ∧ k < 150
    · obtain ⟨B, o, rfl, hB, hd⟩ := hA (by omega)
      obtain ⟨_, e0, d0, rfl, x0⟩ := hd k hlt.1 0 _ rfl
      obtain ⟨_, e1, d1, rfl, x1⟩ := hd k hlt.1 1 _ rfl
      obtain ⟨_, e2, d2, rfl, x2⟩ := hd k hlt.1 2 _ rfl
      obtain ⟨_, e3, d3, rfl, x3⟩ := hd k hlt.1 3 _ rfl
      rw [← hr.old (by exact hB)] at e0 e1 e2 e3
      simp only [List.length_cons, List.length_nil, Nat.zero_add, Nat.reduceAdd, Nat.add_zero] at e0 e1 e2 e3
      clear hd hA
      have hhb := row_lt hr
      have bk := emod_bd d0 3 (by omega)
      have bc := emod_bd d1 3 (by omega)
      have bg := emod_bd d2 16 (by omega)
      have bn := emod_bd d3 3000 (by omega)
      go_upto_block 2 with (first | (go_at_call_has 19 (Value.int .i64 d1); refine (bring_spec d1 3 (by omega) (by omega) x1 _).mono ?_; rintro e w' ⟨rfl, rfl⟩) | (go_at_call_has 19 (Value.int .i64 d2); refine (bring_spec d2 16 (by omega) (by omega) x2 _).mono ?_; rintro e w' ⟨rfl, rfl⟩) | (go_at_call_has 19 (Value.int .i64 d3); refine (bring_spec d3 3000 (by omega) (by omega) x3 _).mono ?_; rintro e w' ⟨rfl, rfl⟩) | (go_at_call_has 19 (Value.int .i64 d0); refine (bring_spec d0 3 (by omega) (by omega) x0 _).mono ?_; rintro e w' ⟨rfl, rfl⟩))
      have ha := hr.alloc (.cells #[.int .i64 d0, .int .i64 d1, .int .i64 d2, .int .i64 d3] 32)
      generalize wr.alloc (.cells #[.int .i64 d0, .int .i64 d1, .int .i64 d2, .int .i64 d3] 32) = wa at ha ⊢
      clear e0 e1 e2 e3 h1 h2 h3 hhb h
      obtain ⟨G, hG⟩ := Int.eq_ofNat_of_zero_le (show 0 ≤ 1 + d2 % 16 by omega)
      have bG : 1 ≤ G ∧ G ≤ 16 := by omega
      rw [hG]
      clear hG bg
      generalize d0 % 3 = K at bk ⊢
      generalize d1 % 3 = C at bc ⊢
      generalize d3 % 3000 = N at bn ⊢
      go_cut [] (fun w => ∃ l', StOk l' ∧ l'.length = 3 ∧ Own W (stBlocks b bl l' ++ (hb, .cells (rowOf 17 (fun g => stHeld l' g)) 38) :: []) w)
      case first =>
        have hH := fun g => held_bd ok g
        have q := row_at ha (i := G) (by omega)
        have qf := row_free ha (i := G)
        clear hr
        go_wp2_with fail
        · obtain ⟨r, l', ht⟩ : ∃ r l', stTake l C G N = (r, l') := ⟨_, _, rfl⟩
          refine (take_at ha ok C G N ht).mono ?_
          rintro e w5 ⟨rfl, h5⟩
          have ok' := ok.take C G N
          have hl' := take_len l C G N
          cases r with
          | false =>
            have := take_no (l := l) (cpu := C) (g := G) (n := N) (by rw [ht])
            rw [ht] at this ok' hl'
            subst this
            go_wp2
            go_meet
            case rel => exact ⟨_, ok, hl3, h5⟩
          | true =>
            have hh := fun g' => take_held (l := l) (cpu := C) (g := G) (n := N) (by rw [ht]) g'
            rw [ht] at hh ok' hl'
            simp only at hh ok' hl' h5
            have q5 := row_at h5 (i := G) (by omega)
            have qf5 := row_free h5 (i := G)
            have h6 := row_set h5 (i := G) (by omega) (stHeld l G - N) (fun g => stHeld l' g) (fun j hj => by rw [hh]; split <;> (split <;> first | rfl | omega | (subst_vars; rfl)))
            have HH := Lib.hid hh
            clear hh q qf
            have bb := hH G
            clear hH
            go_wp2
            go_meet
            case rel => exact ⟨l', ok', hl'.trans hl3, h6⟩
        · obtain ⟨x, y, z, l', ht⟩ : ∃ x y z l', stPut l C G N = ((x, y, z), l') := ⟨_, _, _, _, rfl⟩
          refine (put_at ha ok C G N ht).mono ?_
          rintro e w5 ⟨rfl, h5⟩
          have ok' := ok.put C G N
          have hl' := put_len l C G N
          have hw := put_was ok (cpu := C) (g := G) (n := N)
          rw [ht] at ok' hl' hw
          simp only at ok' hl' hw
          by_cases hz : z = 0
          · subst hz
            have hh := fun g' => put_held ok (cpu := C) (g := G) (n := N) (by rw [ht]) g'
            rw [ht] at hh
            simp only at hh
            obtain ⟨X, rfl⟩ := Int.eq_ofNat_of_zero_le hw.1
            have q5 := row_at h5 (i := G) (by omega)
            have qf5 := row_free h5 (i := G)
            have h6 := row_set h5 (i := G) (by omega) (stHeld l G + N) (fun j => if j = G then stHeld l G + N else stHeld l j) (fun j hj => rfl)
            have bb := hH G
            have bX := hH X
            clear q qf hH
            have HH := Lib.hid hh
            clear hh
            have b6 : 0 ≤ (if X = G then stHeld l G + N else stHeld l X) ∧ (if X = G then stHeld l G + N else stHeld l X) ≤ 20000 := by split <;> omega
            go_wp2_with fail
            generalize w5.setCell ⟨hb, G, none⟩ (.int .i64 (stHeld l G + N)) = w6 at h6 ⊢
            have h7 := row_set h6 (i := X) (by omega) ((if X = G then stHeld l G + N else stHeld l X) - y) (fun g => stHeld l' g) (fun j hj => by
              have e1 := HH.out (j : Int)
              rw [e1]
              by_cases hjX : j = X
              · subst hjX
                rw [if_pos rfl, if_pos rfl]
                by_cases hjG : j = G
                · subst hjG; rw [if_pos rfl, if_pos rfl]
                · rw [if_neg hjG, if_neg (by omega)]; omega
              · rw [if_neg hjX, if_neg (by omega : ¬ (X : Int) = j)]
                by_cases hjG : j = G
                · subst hjG; rw [if_pos rfl, if_pos rfl]; omega
                · rw [if_neg hjG, if_neg (by omega)]; omega)
            have q6 := row_at h6 (i := X) (by omega)
            have qf6 := row_free h6 (i := X)
            have hlt6 := row_lt h6
            generalize hV : (if X = G then stHeld l G + N else stHeld l X) = V at b6 h7 q6
            clear hV q5 qf5
            go_wp2_with (go_at_call 19; refine (bring_id X 17 (by omega) (by omega) (by omega) _).mono ?_; rintro e w' ⟨rfl, rfl⟩)
            go_meet
            case rel => exact ⟨l', ok', hl'.trans hl3, h7⟩
          · have := put_no (l := l) (cpu := C) (g := G) (n := N) (by rw [ht]; exact hz)
            rw [ht] at this
            simp only at this
            subst this
            have hz' : (z == 0) = false := by simpa using hz
            go_wp2
            go_meet
            case rel => exact ⟨_, ok, hl3, h5⟩
        · obtain ⟨x, y, l', ht⟩ : ∃ x y l', stDrain l C = ((x, y), l') := ⟨_, _, _, rfl⟩
          refine (drain_at ha ok C ht).mono ?_
          rintro e w5 ⟨rfl, h5⟩
          have ok' := ok.drain C
          have hl' := drain_len l C
          have hw := drain_was ok (cpu := C)
          have hh := fun g' => drain_held (l := l) (cpu := C) g'
          rw [ht] at ok' hl' hw hh
          simp only at ok' hl' hw hh
          obtain ⟨X, rfl⟩ := Int.eq_ofNat_of_zero_le hw.1
          have q5 := row_at h5 (i := X) (by omega)
          have qf5 := row_free h5 (i := X)
          have hlt5 := row_lt h5
          have h6 := row_set h5 (i := X) (by omega) (stHeld l X - y) (fun g => stHeld l' g) (fun j hj => by
            rw [hh]
            by_cases hjX : j = X
            · subst hjX; rw [if_pos rfl, if_pos rfl]
            · rw [if_neg hjX, if_neg (by omega)]; omega)
          have bX := hH X
          clear q qf hH hh
          go_wp2_with (go_at_call 19; refine (bring_id X 17 (by omega) (by omega) (by omega) _).mono ?_; rintro e w' ⟨rfl, rfl⟩)
          go_meet
          case rel => exact ⟨l', ok', hl'.trans hl3, h6⟩
      case rest =>
        clear ha hr ok hl3
        obtain ⟨lz, ok, hl3, hr⟩ := hcut
        have hH := fun g => held_bd ok g
        have hsb := sumTo_bd (f := fun g => stHeld lz g) (fun g => hH g)
        go_wp2_with fail
        obtain ⟨wo, rfl⟩ : ∃ wo : World, wo = wr := ⟨_, rfl⟩
        go_loopw [16, 17] (fun s i wr => ∃ j : Nat, j ≤ 16 ∧ i = .int .i64 ((j : Int) + 1) ∧ s = .int .i64 (sumTo (fun g => stHeld lz g) j) ∧ Own W (stBlocks b bl lz ++ (hb, .cells (rowOf 17 (fun g => stHeld lz g)) 38) :: []) wr) (fun _ i _ => (18 - intOf i).toNat)
        case atStart => exact ⟨0, by omega, rfl, rfl, hr⟩
        case round =>
          obtain ⟨j, hj, rfl, rfl, hr⟩ := hrel
          by_cases hj16 : j < 16
          · have q := row_at hr (i := j + 1) (by omega)
            have bj := hsb j
            have bj1 := hH ((j + 1 : Nat) : Int)
            have hs1 : sumTo (fun g => stHeld lz g) (j + 1) = sumTo (fun g => stHeld lz g) j + stHeld lz ((j + 1 : Nat) : Int) := rfl
            have HS := Lib.hid hs1
            have hcast : ((j : Int) + 1) = ((j + 1 : Nat) : Int) := by omega
            have i0 : (0 : Int) ≤ (j : Int) + 1 := by omega
            have i1 : (j : Int) + 1 < 17 := by omega
            clear hs1 hH hsb
            rw [hcast] at i0 i1 ⊢
            clear hcast
            generalize hJ : j + 1 = J at q bj1 HS i0 i1 ⊢
            generalize sumTo (fun g => stHeld lz g) j = Sj at bj HS ⊢
            go_wp2_with fail
            go_region_held3 (fun w' => w'.cell? ⟨hb, J, none⟩ = some (.int .i64 (stHeld lz J))) (first | assumption | go_keep)
              (first | (go_at_call 16; refine (held_spec hr.drew ok J).mono ?_; rintro e w5 ⟨rfl, h5⟩; have q5 := row_at h5 (i := J) (by omega)))
            go_wp2
            go_roundw
            case rel => exact ⟨J, by omega, by go_num, by rw [HS.out], h5⟩
            case measure => simp [intOf]; omega
          · obtain rfl : j = 16 := by omega
            have hall : sumTo (fun g => stHeld lz g) 16 = (lz.map (·.2)).sum := sum_all lz ok.2.2
            rw [hall]
            clear hall hH hsb
            have hsum := sum_bd ok.all
            rw [hl3] at hsum
            go_wp2_with fail
            obtain ⟨wp, rfl⟩ : ∃ wp : World, wp = wr := ⟨_, rfl⟩
            go_loopw [16, 18] (fun s i wr => ∃ j : Nat, j ≤ 3 ∧ i = .int .i64 (j : Int) ∧ s = .int .i64 ((lz.map (·.2)).sum - ((lz.take j).map (·.2)).sum) ∧ Own W (stBlocks b bl lz ++ (hb, .cells (rowOf 17 (fun g => stHeld lz g)) 38) :: []) wr) (fun _ i _ => (18 - intOf i).toNat)
            case atStart => exact ⟨0, by omega, rfl, by simp, hr⟩
            case round =>
              obtain ⟨j, hj, rfl, rfl, hr⟩ := hrel
              have hsj := sum_bd (l := lz.take j) (fun p hp => ok.all p (List.mem_of_mem_take hp))
              have hlj : (lz.take j).length ≤ 3 := by rw [List.length_take]; omega
              by_cases hj3 : j < 3
              · obtain ⟨p, hp⟩ : ∃ p, lz[j]? = some p := ⟨_, List.getElem?_eq_getElem (by omega)⟩
                have hs1 := sum_take lz hp
                have HS := Lib.hid hs1
                clear hs1
                have hb2 := ok.at_ hp
                have hhas : stHas lz j = (p.1, p.2) := by simp [stHas, stAt_nat hp]
                have hcase := ok.2.2 p (List.mem_of_getElem? hp)
                have HA := Lib.hid hhas
                clear hhas
                generalize (lz.map (·.2)).sum = T at hsum HS ⊢
                generalize ((lz.take j).map (·.2)).sum = U at hsj HS ⊢
                go_wp2_with fail
                refine (has_at hr ok j HA.out).mono ?_
                rintro e w6 ⟨rfl, h6⟩
                obtain ⟨p1, p2⟩ := p
                simp only at hb2 hcase ⊢
                rcases hcase with hcase | hcase
                · simp only [Prod.mk.injEq] at hcase
                  obtain ⟨rfl, rfl⟩ := hcase
                  go_wp2_with fail
                  go_roundw
                  case rel => exact ⟨j + 1, by omega, by go_num, by rw [HS.out]; go_num, h6⟩
                  case measure => simp [intOf]; omega
                · have z1 : (p1 == 0) = false := by rw [beq_eq_false_iff_ne]; omega
                  have z2 : (p2 == 0) = false := by rw [beq_eq_false_iff_ne]; omega
                  go_wp2_with fail
                  go_roundw
                  case rel => exact ⟨j + 1, by omega, by go_num, by rw [HS.out]; go_num, h6⟩
                  case measure => simp [intOf]; omega
              · obtain rfl : j = 3 := by omega
                have ht3 : lz.take 3 = lz := List.take_of_length_le (by omega)
                rw [ht3, Int.sub_self]
                have q0 := row_at hr (i := 0) (by omega)
                have hz0 : stHeld lz ((0 : Nat) : Int) = 0 := held_zero ok.2.2
                rw [hz0] at q0
                clear hz0
                go_wp2_with fail
                go_roundw
                case rel => exact ⟨k + 1, by omega, by omega, by go_num, lz, ok, hl3, hr⟩
                case measure => simp [intOf]; omega
    · clear hA
      have hor : len ≤ k ∨ 150 ≤ k := by omega
      clear hlt
      rcases hor with hlt | hlt
      all_goals go_wp2_with fail
      all_goals
        go_ret
        exact ⟨rfl, hr.dropL.skip⟩
end Go.Proofs.Ytpmnababdjdniaa.stockSums
