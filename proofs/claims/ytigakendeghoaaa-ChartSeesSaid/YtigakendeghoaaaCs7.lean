/-
  Texts of this claim, joined. No condition.
-/
import Derived.Test.YtigakendeghoaaaCs1
import Derived.Test.YtigakendeghoaaaCs6
import Derived.Maps.OwnSet
import Derived.Maps.OwnOps
/-
  Contracts: the document's links (wainscotref16): what one shows. No condition.
-/
namespace Go.Proofs.Ytigakendeghoaaa.See
open Go.RowKit
attribute [local go_sem ↓] Go.wp_at_zero Go.wp_at_succ
theorem rotl_bit {x : Nat} (hx : x < 18446744073709551616) {s i : Nat} (hs : s < 64) (hi : i < 64) : (rotl x s).testBit i = x.testBit ((i + (64 - s)) % 64) := by
  have hx' : x < 2 ^ 64 := hx
  unfold rotl
  have e : (18446744073709551616 : Nat) = 2 ^ 64 := rfl
  rw [e, Nat.testBit_or, Nat.testBit_mod_two_pow, Nat.testBit_shiftLeft, Nat.testBit_shiftRight]
  by_cases h : s ≤ i
  · have h1 : x.testBit (64 - s + i) = false := Nat.testBit_lt_two_pow (Nat.lt_of_lt_of_le hx' (Nat.pow_le_pow_right (by omega) (by omega)))
    rw [h1, show (i + (64 - s)) % 64 = i - s by omega]
    simp [hi, h]
  · rw [show (i + (64 - s)) % 64 = 64 - s + i by omega]
    simp [h]
theorem rotl_step {x s : Nat} (hx : x < 18446744073709551616) (hs : s < 64) : rotl (rotl x s) 1 = rotl x ((s + 1) % 64) := by
  apply Nat.eq_of_testBit_eq
  intro i
  by_cases hi : i < 64
  · rw [rotl_bit (rotl_lt x s hx) (by omega) hi, rotl_bit hx hs (by omega), rotl_bit hx (by omega) hi]
    congr 1
    omega
  · have h1 : rotl (rotl x s) 1 < 2 ^ i := Nat.lt_of_lt_of_le (rotl_lt _ _ (rotl_lt x s hx)) (show 2 ^ 64 ≤ 2 ^ i from Nat.pow_le_pow_right (by omega) (by omega))
    have h2 : rotl x ((s + 1) % 64) < 2 ^ i := Nat.lt_of_lt_of_le (rotl_lt _ _ hx) (show 2 ^ 64 ≤ 2 ^ i from Nat.pow_le_pow_right (by omega) (by omega))
    rw [Nat.testBit_lt_two_pow h1, Nat.testBit_lt_two_pow h2]
theorem rotl_zero {x : Nat} (hx : x < 18446744073709551616) : rotl x 0 = x := by
  unfold rotl
  rw [Nat.shiftLeft_zero, Nat.mod_eq_of_lt hx, Nat.sub_zero, Nat.shiftRight_eq_div_pow, Nat.div_eq_of_lt (show x < 2 ^ 64 from hx), Nat.or_zero]
theorem mod64_step (i : Nat) : (i % 64 + 1) % 64 = (i + 1) % 64 := by omega
def addN (x i : Nat) : Nat := (x + i * 2654435769) % 18446744073709551616
theorem addN_step (x i : Nat) : (addN x i + 2654435769) % 18446744073709551616 = addN x (i + 1) := by
  unfold addN
  omega
set_option maxRecDepth 100000 in
theorem rturned_spec (key n : Nat) (hx : key < 18446744073709551616) (hn : n < 16) (w : World) : Calls Try.prog 127 #[.int .u64 key, .int .i64 n] w fun e w' => e = .returned (.int .u64 (turned key n : Nat)) ∧ w = w' := by
  have H0 := Lib.hid (rotl_zero hx)
  have HX := Lib.hid hx
  have h5 : 5 * n ≤ 75 := by omega
  clear hx
  go_enter Try.func127, Try.ntmps127
  go_wp2_with fail
  go_loopw [5, 6] (fun ov iv wr => ∃ i : Nat, iv = .int .i64 i ∧ i ≤ 5 * n ∧ ov = .int .u64 (rotl key (i % 64) : Nat) ∧ w = wr) (fun _ iv _ => 5 * n - (intOf iv).toNat)
  case atStart => exact ⟨0, rfl, by omega, by rw [Nat.zero_mod, H0.out], rfl⟩
  case round =>
    obtain ⟨i, rfl, hi, rfl, rfl⟩ := hrel
    by_cases hlt : i < 5 * n
    · have hlti : (i : Int) < 5 * (n : Int) := by omega
      have HB := Lib.hid (rot_bits (rotl key (i % 64)) 1 (rotl_lt _ _ HX.out))
      have HS := Lib.hid (rotl_step (s := i % 64) HX.out (Nat.mod_lt _ (by omega)))
      go_wp2_with fail
      refine ⟨⟨i + 1, by go_num, by omega, ?_, trivial⟩, by simp [intOf]; omega⟩
      have hb := HB.out
      rw [HS.out, mod64_step] at hb
      rw [← hb]
      rfl
    · obtain rfl : i = 5 * n := by omega
      have hlti : ¬ (5 * (n : Int)) < 5 * (n : Int) := by omega
      have hcast : ((5 * n : Nat) : Int) = 5 * (n : Int) := by omega
      obtain ⟨R, hR⟩ : ∃ R, rotl key (5 * n % 64) = R := ⟨_, rfl⟩
      have HR := Lib.hid hR
      have HRL := Lib.hid (hR ▸ rotl_lt key (5 * n % 64) HX.out)
      rw [hR, hcast]
      clear hR
      go_wp2_with fail
      go_loopw [5, 7] (fun ov iv wr => ∃ i : Nat, iv = .int .i64 i ∧ i ≤ n ∧ ov = .int .u64 (addN R i : Nat) ∧ w = wr) (fun _ iv _ => n - (intOf iv).toNat)
      case atStart => exact ⟨0, rfl, by omega, by unfold addN; rw [Nat.zero_mul, Nat.add_zero, Nat.mod_eq_of_lt HRL.out], rfl⟩
      case round =>
        obtain ⟨j, rfl, hj, rfl, rfl⟩ := hrel
        by_cases hjl : j < n
        · have hjli : (j : Int) < (n : Int) := by omega
          have HA := Lib.hid (addN_step R j)
          go_wp2_with fail
          refine ⟨⟨j + 1, by go_num, by omega, ?_, trivial⟩, by simp [intOf]; omega⟩
          rw [← HA.out]
          rw [IntKind.wrap_u64, Int.natCast_emod, Int.natCast_add]
          rfl
        · obtain rfl : j = n := by omega
          have hjli : ¬ (j : Int) < (j : Int) := by omega
          go_wp2_with fail
          go_ret
          exact ⟨by rw [turned_eq, HR.out]; rfl, rfl⟩
set_option maxRecDepth 100000 in
theorem rshow_ok (x key n : Nat) (hx : x < 18446744073709551616) (hk : key < 18446744073709551616) (hn : n < 16) (w : World) : Calls Try.prog 121 #[.int .u64 x, .int .u64 key, .int .i64 n] w fun e w' => e = .returned (showV x key n) ∧ w = w' := by
  have ht := fun w => rturned_spec key n hk hn w
  have hb := u64_xor_nat x (turned key n) hx (turned_lt key n)
  unfold showV showOf
  obtain ⟨T, hT⟩ : ∃ T, turned key n = T := ⟨_, rfl⟩
  obtain ⟨X, hX⟩ : ∃ X, x ^^^ T = X := ⟨_, rfl⟩
  rw [hT] at ht hb ⊢
  rw [hX] at hb ⊢
  have HT := Lib.hid ht
  have hn0 : (0 : Int) ≤ n := by omega
  have hn1 : (n : Int) < 16 := by omega
  clear ht hT hX hx hk
  by_cases hc : X ≤ 16
  · have hci : decide ((16 : Int) < X) = false := decide_eq_false (by omega)
    rw [if_pos hc]
    go_enter Try.func121, Try.ntmps121
    go_wp2_with (go_at_call 127; refine (HT.out _).mono ?_; rintro e w' ⟨rfl, rfl⟩)
    go_ret2
    exact ⟨rfl, rfl⟩
  · have hci : decide ((16 : Int) < X) = true := decide_eq_true (by omega)
    rw [if_neg hc]
    go_enter Try.func121, Try.ntmps121
    go_wp2_with (go_at_call 127; refine (HT.out _).mono ?_; rintro e w' ⟨rfl, rfl⟩)
    go_ret2
    exact ⟨rfl, rfl⟩
end Go.Proofs.Ytigakendeghoaaa.See

/-
  Contract: the document's list of objects (wainscotref16.List). No condition.
-/
namespace Go.Proofs.Ytigakendeghoaaa.See
open Go.RowKit
attribute [local go_sem ↓] Go.wp_at_zero Go.wp_at_succ
section
variable {W w : World} {m : List (Nat × Obj)} {B o c : Nat} {g : List Nat}
set_option maxRecDepth 100000 in
set_option maxHeartbeats 4000000 in
theorem rlist16_spec (h : Own W m w) (hr : Rd W m B o g) {n : Nat} (hn : g.length = n) (hg : n ≤ 16) (hw : W64 g) (hnc : n ≤ c) (hcm : c ≤ maxLen) (key : Nat) (hk : key < 18446744073709551616) (first : Int) (h0 : -1 ≤ first) (h1 : first < n) :
    Calls Try.prog 106 #[.slice (some ⟨B, o, none⟩) n c, .int .u64 key, .int .i64 first] w (ListPost W m (walk (shW key) g (n + 1) [] first)) := by
  obtain ⟨R, hR⟩ : ∃ R, walk (shW key) g (n + 1) [] first = R := ⟨_, rfl⟩
  have HR := Lib.hid hR
  have HRD := Lib.hid hr
  have HN := Lib.hid hn
  have HW := Lib.hid hw
  have HK := Lib.hid hk
  rw [hR]
  have hgi : (n : Int) ≤ 16 := by omega
  have hb1 : decide ((16 : Int) < (n : Int)) = false := decide_eq_false (by omega)
  have hb2 : decide (first < -1) = false := decide_eq_false (by omega)
  have hb3 : decide ((n : Int) ≤ first) = false := decide_eq_false (by omega)
  clear hr hn hw hk hcm hR
  go_enter Try.func106, Try.ntmps106
  go_wp2_with fail
  have H1 := Lib.hid h
  clear hb1 hb2 hb3
  go_loopw [2, 8] (fun iv ov wr => ∃ (i : Int) (out : List Int) (bs : List (Nat × Obj)), iv = .int .i64 i ∧ -1 ≤ i ∧ i < n ∧ Hid (out.Nodup ∧ ∀ x ∈ out, 0 ≤ x ∧ x < n) ∧ Hid (walk (shW key) g (n + 1 - out.length) out i = R) ∧ Hid (IntsOwn true ov out bs) ∧ Own W (bs ++ m) wr) (fun _ ov _ => 17 - slLen ov)
  case atStart => exact ⟨first, [], [], rfl, h0, h1, ⟨List.nodup_nil, fun x hx => (by simp at hx)⟩, HR, SlO.nil _ _ _, H1.out⟩
  case round =>
    clear H1 HR h0 h1 h
    obtain ⟨i, out, bs, rfl, i0, i1, HND, HWK, HO, hr⟩ := hrel
    obtain ⟨A8, c8, hv, -, -⟩ := HO.out.slice
    subst hv
    have hfew := few HND.out.1 HND.out.2
    obtain ⟨z, hz⟩ : ∃ z, out.length = z := ⟨_, rfl⟩
    have HZ := Lib.hid hz
    rw [hz] at hfew ⊢
    have HO2 : Hid (IntsOwn true (.slice A8 z c8) out bs) := by have := HO.out; rw [hz] at this; exact this
    by_cases him : i = -1
    · subst him
      have hk := HWK.out
      rw [hz, show n + 1 - z = (n - z) + 1 by omega] at hk
      simp only [walk, if_true] at hk
      have HK2 := Lib.hid hk
      clear hz hk
      go_wp2_with fail
      go_ret2
      rw [← HK2.out]
      exact ⟨_, bs, rfl, HO2, hr⟩
    · obtain ⟨j, rfl⟩ : ∃ j : Nat, i = j := ⟨i.toNat, by omega⟩
      have hj16 : j < 16 := by omega
      have hji0 : (0 : Int) ≤ (j : Int) := by omega
      have hji1 : (j : Int) < 16 := by omega
      have HRR := Lib.hid hr
      clear hz hr
      go_wp2_with fail
      obtain ⟨w0, hw0⟩ : ∃ w0 : World, w0 = wr := ⟨_, rfl⟩
      subst hw0
      go_loopw [9] (fun kv wr => ∃ k : Nat, kv = .int .i64 k ∧ k ≤ z ∧ Hid (∀ q, q < k → out[q]? ≠ some (j : Int)) ∧ Own W (bs ++ m) wr) (fun kv _ => z - (intOf kv).toNat)
      case atStart => exact ⟨0, rfl, by omega, (fun q hq => absurd hq (by omega)), HRR.out⟩
      case round =>
        clear HRR
        obtain ⟨k, rfl, hk, HNO, hr⟩ := hrel
        by_cases hlt : k < z
        · have hlti : (k : Int) < z := by omega
          have hk0 : (0 : Int) ≤ k := by omega
          obtain ⟨y, hy⟩ : ∃ y, out[k]? = some y := ⟨_, List.getElem?_eq_getElem (by rw [HZ.out]; exact hlt)⟩
          obtain ⟨g8, cp8, cur8, hv8, -⟩ := HO2.out.form (by rw [HZ.out]; omega)
          rw [HZ.out] at hv8
          simp only [Value.slice.injEq, true_and] at hv8
          obtain ⟨rfl, rfl⟩ := hv8
          have cy := SlO.cell HO2.out hr (by rw [HZ.out]) (ints_get hy)
          by_cases hyj : y = (j : Int)
          · subst hyj
            have hin : (j : Int) ∈ out := List.mem_of_getElem? hy
            have hkk := HWK.out
            rw [HZ.out, show n + 1 - z = (n - z) + 1 by omega] at hkk
            simp only [walk, him, hin, if_false, if_true] at hkk
            have HK2 := Lib.hid hkk
            clear hkk hy
            go_wp2_with fail
            go_ret2
            rw [← HK2.out]
            exact ⟨rfl, hr.dropL⟩
          · have hyb : (y == (j : Int)) = false := beq_eq_false_iff_ne.2 hyj
            have HNO2 : Hid (∀ q, q < k + 1 → out[q]? ≠ some (j : Int)) := fun q hq => by
              by_cases he : q = k
              · subst he
                rw [hy]
                intro hh
                exact hyj (by simpa using hh)
              · exact HNO.out q (by omega)
            clear hy
            go_wp2_with fail
            exact ⟨⟨k + 1, by go_num, by omega, HNO2, hr⟩, by simp [intOf]; omega⟩
        · obtain rfl : k = z := by omega
          have hlti : ¬ (k : Int) < k := by omega
          have hin : (j : Int) ∉ out := fun hm => by
            obtain ⟨q, hq, he⟩ := List.getElem_of_mem hm
            exact HNO.out q (by rw [← HZ.out]; exact hq) (by rw [List.getElem?_eq_getElem hq, he])
          obtain ⟨x, hx⟩ : ∃ x, g[j]? = some x := ⟨_, List.getElem?_eq_getElem (by have := HN.out; omega)⟩
          have hxw := HW.out x (List.mem_of_getElem? hx)
          have hgd : g.getD j 0 = x := by rw [List.getD_eq_getElem?_getD, hx]; rfl
          have hltz := few_lt HND.out.1 HND.out.2 hji0 i1 hin
          rw [HZ.out] at hltz
          have hsh := fun w => rshow_ok x key j hxw HK.out hj16 w
          have hkk := HWK.out
          rw [HZ.out, show n + 1 - k = (n - k) + 1 by omega] at hkk
          simp only [walk, him, hin, if_false, Int.toNat_natCast, hgd, shW, HN.out] at hkk
          have H4 := Lib.hid (hr.alloc (.cells #[.int .i64 (j : Int)] 3))
          have HSRC := Lib.hid (src_one wr (j : Int))
          have hnd : (out ++ [(j : Int)]).Nodup ∧ ∀ x ∈ out ++ [(j : Int)], 0 ≤ x ∧ x < n := by
            refine ⟨List.nodup_append.2 ⟨HND.out.1, by simp, fun a ha b hb he => ?_⟩, fun x hx => ?_⟩
            · simp at hb
              subst hb
              subst he
              exact hin ha
            · rcases List.mem_append.1 hx with hx | hx
              · exact HND.out.2 x hx
              · simp at hx
                subst hx
                exact ⟨hji0, i1⟩
          have HND2 := Lib.hid hnd
          have HX := Lib.hid hx
          have hlen : out.length + [(j : Int)].length ≤ 60000 := by rw [HZ.out]; simp; omega
          have HLEN := Lib.hid hlen
          unfold showV at hsh
          clear hx hnd hgd hxw hlen hr
          cases hso : showOf x key j with
          | none =>
            rw [hso] at hsh hkk
            simp only at hsh hkk
            have HS := Lib.hid hsh
            have HK2 := Lib.hid hkk
            clear hsh hkk hso
            go_wp2_with (first | (at_builtin; refine wpList_app_ints rfl _ _ rfl rfl rfl HO2.out H4.out HSRC.out HLEN.out ?_; intro v' w' bs' k1 k2 k3; have K1 := Lib.hid k1; have cx := HRD.out _ k2.dropL j x HX.out; clear k1 k3) | (go_at_call 121; refine (HS.out _).mono ?_; rintro e w5 ⟨rfl, rfl⟩))
            go_ret2
            rw [← HK2.out]
            exact ⟨rfl, k2.dropL⟩
          | some y =>
            rw [hso] at hsh hkk
            simp only at hsh hkk
            obtain ⟨y0, y1⟩ := showOf_ge hso
            have HS := Lib.hid hsh
            clear hsh hso
            by_cases hny : (n : Int) ≤ y
            · rw [if_pos hny] at hkk
              have HK2 := Lib.hid hkk
              clear hkk
              go_wp2_with (first | (at_builtin; refine wpList_app_ints rfl _ _ rfl rfl rfl HO2.out H4.out HSRC.out HLEN.out ?_; intro v' w' bs' k1 k2 k3; have K1 := Lib.hid k1; have cx := HRD.out _ k2.dropL j x HX.out; clear k1 k3) | (go_at_call 121; refine (HS.out _).mono ?_; rintro e w5 ⟨rfl, rfl⟩))
              go_ret2
              rw [← HK2.out]
              exact ⟨rfl, k2.dropL⟩
            · rw [if_neg hny] at hkk
              have HK2 : Hid (walk (shW key) g (n + 1 - (out ++ [(j : Int)]).length) (out ++ [(j : Int)]) y = R) := by
                show _ = _
                rw [List.length_append, HZ.out, List.length_singleton, show n + 1 - (k + 1) = n - k by omega]
                exact hkk
              clear hkk
              have hnyi : y < n := by omega
              go_wp2_with (first | (at_builtin; refine wpList_app_ints rfl _ _ rfl rfl rfl HO2.out H4.out HSRC.out HLEN.out ?_; intro v' w' bs' k1 k2 k3; have K1 := Lib.hid k1; have cx := HRD.out _ k2.dropL j x HX.out; clear k1 k3) | (go_at_call 121; refine (HS.out _).mono ?_; rintro e w5 ⟨rfl, rfl⟩))
              obtain ⟨A9, c9, hv9, -, -⟩ := K1.out.slice
              rw [List.length_append, HZ.out, List.length_singleton] at hv9
              refine ⟨⟨y, _, bs', rfl, y0, hnyi, HND2, HK2, K1, k2⟩, ?_⟩
              rw [hv9]
              simp [slLen]
              omega
end
end Go.Proofs.Ytigakendeghoaaa.See

/-
  The places of a chart, the document's: contracts out of the trees. No condition.
-/
namespace Go.Proofs.Ytigakendeghoaaa.Apart
open Go Ex chartPlaces
section
variable {C S O d e key i k : Int} {W w : World} {m : List (Nat × Obj)}
theorem check_all (hO : Own W m w) : Calls Try.prog 11 #[chV C S O d e key] w fun r w' => r = .returned (.int .i64 (if Ok C S O d e then 0 else 2)) ∧ Own W m w' := by
  refine (tree_ends (σ := s0 C S O d e key 0 0) mixed ov_nil (args := [chart]) rfl tChk [] (by simp) r_cCheck (no_bad rfl) w tabs_nil).mono ?_
  rintro _ _ ⟨⟨x, rfl, hx⟩, h2⟩
  refine ⟨?_, hO.then_below h2⟩
  rw [ends_of hx, chk_is]
theorem rcheck_all (h1 : I64 C) (hS : I64 S) (h3 : I64 O) (hO : Own W m w) : Calls Try.prog 21 #[chV C S O d e key] w fun r w' => r = .returned (.int .i64 (if Ok C S O d e then 0 else 2)) ∧ Own W m w' := by
  refine (tree_ends (σ := s0 C S O d e key 0 0) mixed ov_nil (args := [chart]) rfl tChkR [] (by simp) r_rCheck (no_bad rfl) w tabs_nil).mono ?_
  rintro _ _ ⟨⟨x, rfl, hx⟩, h2⟩
  refine ⟨?_, hO.then_below h2⟩
  rw [ends_of hx, chkR_is C S O d e key 0 0 h1 hS h3]
theorem rwords_ok (h : Ok C S O d e) (hO : Own W m w) : Calls Try.prog 22 #[chV C S O d e key] w fun r w' => r = .returned (.int .i64 (4 * C + 4 + 4 * S + S * O)) ∧ Own W m w' := by
  refine (place (key := key) (i := 0) (k := 0) h r_rWords rfl (bad_words _ _ _ _ _ _ _ _) hO).mono ?_
  rintro _ _ ⟨rfl, h2⟩
  refine ⟨?_, h2⟩
  have hm := mul_ok h
  have h8 := s1_8 (key := key) (i := 0) (k := 0) h
  have e0 : s1 C S O d e key 0 0 0 = C := rfl
  have e1 : s1 C S O d e key 0 0 1 = S := rfl
  have e2 : s1 C S O d e key 0 0 2 = O := rfl
  unfold Ok at h
  simp only [tWords, chain, endOf, Cnd.ev, okQ, v, l, SE.ev, is, num, h8, e0, e1, e2, Ex.valOf, add, mul, links, slabs, base, decide_eq_true_eq, beq_self_eq_true, if_true]
  rw [if_neg (by omega), if_neg (by omega), if_neg (by omega), if_neg (by omega), if_neg (by omega), if_neg (by omega)]
  rw [wrap_id (n := 4 * C) (by omega), wrap_id (n := 4 * C + 4) (by omega), wrap_id (n := 4 * S) (by omega), wrap_id (n := 4 * C + 4 + 4 * S) (by omega), wrap_id (n := S * O) (by omega), wrap_id (n := 4 * C + 4 + 4 * S + S * O) (by omega)]
theorem rlock_ok (h : Ok C S O d e) (hO : Own W m w) : Calls Try.prog 25 #[chV C S O d e key] w fun r w' => r = .returned (.int .i64 (4 * C)) ∧ Own W m w' := by
  refine (place (key := key) (i := 0) (k := 0) h r_rLock rfl (no_bad rfl) hO).mono ?_
  rintro _ _ ⟨rfl, h2⟩
  refine ⟨?_, h2⟩
  have h8 := s1_8 (key := key) (i := 0) (k := 0) h
  have e0 : s1 C S O d e key 0 0 0 = C := rfl
  have e1 : s1 C S O d e key 0 0 1 = S := rfl
  have e2 : s1 C S O d e key 0 0 2 = O := rfl
  have e6 : s1 C S O d e key 0 0 6 = 0 := rfl
  have e7 : s1 C S O d e key 0 0 7 = 0 := rfl
  unfold Ok at h
  simp only [tLock, t0, t1, endOf, Cnd.ev, okQ, v, l, SE.ev, is, no, num, h8, e0, e1, e2, e6, e7, Ex.valOf, add, mul, links, slabs, base, decide_eq_true_eq, beq_self_eq_true, if_true]
  rw [wrap_id (n := 4 * C) (by omega)]
theorem rshelf_ok (h : Ok C S O d e) (hO : Own W m w) : Calls Try.prog 26 #[chV C S O d e key] w fun r w' => r = .returned (.int .i64 (4 * C + 1)) ∧ Own W m w' := by
  refine (place (key := key) (i := 0) (k := 0) h r_rShelf rfl (no_bad rfl) hO).mono ?_
  rintro _ _ ⟨rfl, h2⟩
  refine ⟨?_, h2⟩
  have h8 := s1_8 (key := key) (i := 0) (k := 0) h
  have e0 : s1 C S O d e key 0 0 0 = C := rfl
  have e1 : s1 C S O d e key 0 0 1 = S := rfl
  have e2 : s1 C S O d e key 0 0 2 = O := rfl
  have e6 : s1 C S O d e key 0 0 6 = 0 := rfl
  have e7 : s1 C S O d e key 0 0 7 = 0 := rfl
  unfold Ok at h
  simp only [tShelf, t0, t1, endOf, Cnd.ev, okQ, v, l, SE.ev, is, no, num, h8, e0, e1, e2, e6, e7, Ex.valOf, add, mul, links, slabs, base, decide_eq_true_eq, beq_self_eq_true, if_true]
  rw [wrap_id (n := 4 * C) (by omega), wrap_id (n := 4 * C + 1) (by omega)]
theorem rheld_ok (h : Ok C S O d e) (hO : Own W m w) : Calls Try.prog 27 #[chV C S O d e key] w fun r w' => r = .returned (.int .i64 (4 * C + 2)) ∧ Own W m w' := by
  refine (place (key := key) (i := 0) (k := 0) h r_rHeld rfl (no_bad rfl) hO).mono ?_
  rintro _ _ ⟨rfl, h2⟩
  refine ⟨?_, h2⟩
  have h8 := s1_8 (key := key) (i := 0) (k := 0) h
  have e0 : s1 C S O d e key 0 0 0 = C := rfl
  have e1 : s1 C S O d e key 0 0 1 = S := rfl
  have e2 : s1 C S O d e key 0 0 2 = O := rfl
  have e6 : s1 C S O d e key 0 0 6 = 0 := rfl
  have e7 : s1 C S O d e key 0 0 7 = 0 := rfl
  unfold Ok at h
  simp only [tHeld, t0, t1, endOf, Cnd.ev, okQ, v, l, SE.ev, is, no, num, h8, e0, e1, e2, e6, e7, Ex.valOf, add, mul, links, slabs, base, decide_eq_true_eq, beq_self_eq_true, if_true]
  rw [wrap_id (n := 4 * C) (by omega), wrap_id (n := 4 * C + 2) (by omega)]
theorem rhead_ok (h : Ok C S O d e) (hi : 0 ≤ i ∧ i < C) (hO : Own W m w) : Calls Try.prog 23 #[chV C S O d e key, .int .i64 i] w fun r w' => r = .returned (.int .i64 (4 * i)) ∧ Own W m w' := by
  refine (place (key := key) (i := i) (k := 0) h r_rHead rfl (no_bad rfl) hO).mono ?_
  rintro _ _ ⟨rfl, h2⟩
  refine ⟨?_, h2⟩
  have h8 := s1_8 (key := key) (i := i) (k := 0) h
  have e0 : s1 C S O d e key i 0 0 = C := rfl
  have e1 : s1 C S O d e key i 0 1 = S := rfl
  have e2 : s1 C S O d e key i 0 2 = O := rfl
  have e6 : s1 C S O d e key i 0 6 = i := rfl
  have e7 : s1 C S O d e key i 0 7 = 0 := rfl
  unfold Ok at h
  simp only [tHead, t0, t1, endOf, Cnd.ev, okQ, v, l, SE.ev, is, no, num, h8, e0, e1, e2, e6, e7, Ex.valOf, add, mul, links, slabs, base, decide_eq_true_eq, beq_self_eq_true, if_true]
  rw [if_neg (by omega), if_pos (by omega)]
  rw [wrap_id (n := 4 * i) (by omega)]
theorem rpart_ok (h : Ok C S O d e) (hi : 0 ≤ i ∧ i < C) (hO : Own W m w) : Calls Try.prog 24 #[chV C S O d e key, .int .i64 i] w fun r w' => r = .returned (.int .i64 (4 * i + 2)) ∧ Own W m w' := by
  refine (place (key := key) (i := i) (k := 0) h r_rPart rfl (no_bad rfl) hO).mono ?_
  rintro _ _ ⟨rfl, h2⟩
  refine ⟨?_, h2⟩
  have h8 := s1_8 (key := key) (i := i) (k := 0) h
  have e0 : s1 C S O d e key i 0 0 = C := rfl
  have e1 : s1 C S O d e key i 0 1 = S := rfl
  have e2 : s1 C S O d e key i 0 2 = O := rfl
  have e6 : s1 C S O d e key i 0 6 = i := rfl
  have e7 : s1 C S O d e key i 0 7 = 0 := rfl
  unfold Ok at h
  simp only [tPart, t0, t1, endOf, Cnd.ev, okQ, v, l, SE.ev, is, no, num, h8, e0, e1, e2, e6, e7, Ex.valOf, add, mul, links, slabs, base, decide_eq_true_eq, beq_self_eq_true, if_true]
  rw [if_neg (by omega), if_pos (by omega)]
  rw [wrap_id (n := 4 * i) (by omega), wrap_id (n := 4 * i + 2) (by omega)]
theorem rfirst_ok (h : Ok C S O d e) (hi : 0 ≤ i ∧ i < S) (hO : Own W m w) : Calls Try.prog 28 #[chV C S O d e key, .int .i64 i] w fun r w' => r = .returned (.int .i64 (4 * C + 4 + 4 * i)) ∧ Own W m w' := by
  refine (place (key := key) (i := i) (k := 0) h r_rFirst rfl (no_bad rfl) hO).mono ?_
  rintro _ _ ⟨rfl, h2⟩
  refine ⟨?_, h2⟩
  have h8 := s1_8 (key := key) (i := i) (k := 0) h
  have e0 : s1 C S O d e key i 0 0 = C := rfl
  have e1 : s1 C S O d e key i 0 1 = S := rfl
  have e2 : s1 C S O d e key i 0 2 = O := rfl
  have e6 : s1 C S O d e key i 0 6 = i := rfl
  have e7 : s1 C S O d e key i 0 7 = 0 := rfl
  unfold Ok at h
  simp only [tFirst, t0, t1, endOf, Cnd.ev, okQ, v, l, SE.ev, is, no, num, h8, e0, e1, e2, e6, e7, Ex.valOf, add, mul, links, slabs, base, decide_eq_true_eq, beq_self_eq_true, if_true]
  rw [if_neg (by omega), if_pos (by omega)]
  rw [wrap_id (n := 4 * C) (by omega), wrap_id (n := 4 * C + 4) (by omega), wrap_id (n := 4 * i) (by omega), wrap_id (n := 4 * C + 4 + 4 * i) (by omega)]
theorem rnext_ok (h : Ok C S O d e) (hi : 0 ≤ i ∧ i < S) (hO : Own W m w) : Calls Try.prog 29 #[chV C S O d e key, .int .i64 i] w fun r w' => r = .returned (.int .i64 (4 * C + 4 + 4 * i + 2)) ∧ Own W m w' := by
  refine (place (key := key) (i := i) (k := 0) h r_rNext rfl (no_bad rfl) hO).mono ?_
  rintro _ _ ⟨rfl, h2⟩
  refine ⟨?_, h2⟩
  have h8 := s1_8 (key := key) (i := i) (k := 0) h
  have e0 : s1 C S O d e key i 0 0 = C := rfl
  have e1 : s1 C S O d e key i 0 1 = S := rfl
  have e2 : s1 C S O d e key i 0 2 = O := rfl
  have e6 : s1 C S O d e key i 0 6 = i := rfl
  have e7 : s1 C S O d e key i 0 7 = 0 := rfl
  unfold Ok at h
  simp only [tNext, t0, t1, endOf, Cnd.ev, okQ, v, l, SE.ev, is, no, num, h8, e0, e1, e2, e6, e7, Ex.valOf, add, mul, links, slabs, base, decide_eq_true_eq, beq_self_eq_true, if_true]
  rw [if_neg (by omega), if_pos (by omega)]
  rw [wrap_id (n := 4 * C) (by omega), wrap_id (n := 4 * C + 4) (by omega), wrap_id (n := 4 * i) (by omega), wrap_id (n := 4 * C + 4 + 4 * i) (by omega), wrap_id (n := 4 * C + 4 + 4 * i + 2) (by omega)]
theorem rlink_ok (h : Ok C S O d e) (hi : 0 ≤ i ∧ i < S) (hk : 0 ≤ k ∧ k < O) (hO : Own W m w) : Calls Try.prog 30 #[chV C S O d e key, .int .i64 i, .int .i64 k] w fun r w' => r = .returned (.int .i64 (4 * C + 4 + 4 * S + i * O + k)) ∧ Own W m w' := by
  refine (place (key := key) (i := i) (k := k) h r_rLink rfl (no_bad rfl) hO).mono ?_
  rintro _ _ ⟨rfl, h2⟩
  refine ⟨?_, h2⟩
  have hm : 0 ≤ i * O ∧ i * O ≤ 32 * O := ⟨Int.mul_nonneg (by omega) (by omega), Int.mul_le_mul_of_nonneg_right (by unfold Ok at h; omega) (by omega)⟩
  have h8 := s1_8 (key := key) (i := i) (k := k) h
  have e0 : s1 C S O d e key i k 0 = C := rfl
  have e1 : s1 C S O d e key i k 1 = S := rfl
  have e2 : s1 C S O d e key i k 2 = O := rfl
  have e6 : s1 C S O d e key i k 6 = i := rfl
  have e7 : s1 C S O d e key i k 7 = k := rfl
  unfold Ok at h
  simp only [tLink, t0, t1, endOf, Cnd.ev, okQ, v, l, SE.ev, is, no, num, h8, e0, e1, e2, e6, e7, Ex.valOf, add, mul, links, slabs, base, decide_eq_true_eq, beq_self_eq_true, if_true]
  rw [if_neg (by omega), if_pos (by omega), if_neg (by omega), if_pos (by omega)]
  rw [wrap_id (n := 4 * C) (by omega), wrap_id (n := 4 * C + 4) (by omega), wrap_id (n := 4 * S) (by omega), wrap_id (n := 4 * C + 4 + 4 * S) (by omega), wrap_id (n := i * O) (by omega), wrap_id (n := 4 * C + 4 + 4 * S + i * O) (by omega), wrap_id (n := 4 * C + 4 + 4 * S + i * O + k) (by omega)]
end
end Go.Proofs.Ytigakendeghoaaa.Apart

/-
  Contracts: the document's Key, list (wainscotref21). No condition.
-/
namespace Go.Proofs.Ytigakendeghoaaa.See
open Go.RowKit
open Apart (chV chB ChAt box6 box6')
open chartPlaces (Ok)
attribute [local go_sem ↓] Go.wp_at_zero Go.wp_at_succ
section
variable {W w : World} {m : List (Nat × Obj)} {B o N k : Nat} {g : List Nat} {c : Ch} {d e : Int}
set_option maxRecDepth 100000 in
theorem r1key_spec (s : Nat) (hs : s < 32) (h : Own W m w) : Calls Try.prog 33 #[cV c d e, .int .i64 s] w fun r w' => r = .returned (.int .u64 (keyOf c.key s : Nat)) ∧ Own W m w' := by
  have h1 := h.alloc (.cells #[.int .i64 c.C, .int .i64 c.S, .int .i64 c.O, .int .i64 d, .int .i64 e, .int .u64 c.key] 24)
  have hv : IntKind.u64.wrap ((c.key : Int) + IntKind.u64.wrap ((s : Int) * 11400714819323198485)) = ((keyOf c.key s : Nat) : Int) := by
    unfold keyOf
    rw [IntKind.wrap_u64, IntKind.wrap_u64]
    omega
  have HV := Lib.hid hv
  clear hv
  unfold cV chV
  go_enter Try.func33, Try.ntmps33
  go_wp2_with fail
  go_ret
  exact ⟨by rw [← HV.out]; rfl, h1⟩
set_option maxRecDepth 100000 in
set_option maxHeartbeats 2000000 in
theorem r1list_spec (h : Own W m w) (hc : COk c d e) (hw : WOk W m B o N k g c) (s : Nat) (hs : s < c.S) (i : Int) (hi : -1 ≤ i) :
    Calls Try.prog 85 #[.slice (some ⟨B, o, none⟩) N k, cV c d e, .int .i64 s, .int .i64 i] w (ListPost W m (listP c g s i)) := by
  obtain ⟨n1, n2, n3, n4, n5, n6⟩ := hc.nums
  have h1 := h.new (.cells #[.int .i64 c.C, .int .i64 c.S, .int .i64 c.O, .int .i64 d, .int .i64 e, .int .u64 c.key] 24)
  obtain ⟨b, hb⟩ : ∃ b, w.heap.size = b := ⟨_, rfl⟩
  rw [hb] at h1
  have h1 : Own W (chB b c.C c.S c.O d e c.key :: m) _ := h1
  obtain ⟨y0, y1, y2, y3, y4, y5⟩ := box6 h1
  by_cases hio : i < c.O
  · have hnio : ¬ (c.O : Int) ≤ i := by omega
    have hsi : 0 ≤ (s : Int) ∧ (s : Int) < (c.S : Int) := by omega
    have hm := mul_in hs
    have hN := hw.n
    unfold Ch.words at hN
    have hle : 4 * c.C + 4 + 4 * c.S + s * c.O + c.O ≤ N := by omega
    have hnk := hw.nk
    have hkm := hw.km
    have hls := fun ws (hws : Own W (chB b c.C c.S c.O d e c.key :: m) ws) => rlist16_spec (c := k - (4 * c.C + 4 + 4 * c.S + s * c.O)) hws ((rd_links hw hs).more (m' := [chB b c.C c.S c.O d e c.key])) (n := c.O) (links_len (hw.len.trans hw.n) hs) n6 (w64_links hw s) (by omega) (by omega) (keyOf c.key s) (keyOf_lt _ _) i hi hio
    rw [← listP_in hs hi hio] at hls
    clear hN hm hkm
    have HC := Lib.hid hc
    have HS := Lib.hid hsi
    have HM := Lib.hid hw.rd
    obtain ⟨p, hp⟩ : ∃ p : Nat, 4 * c.C + 4 + 4 * c.S + s * c.O = p := ⟨_, rfl⟩
    have hpi : 4 * (c.C : Int) + 4 + 4 * (c.S : Int) + (s : Int) * (c.O : Int) + 0 = (p : Int) := by rw [← hp]; push_cast; omega
    have HPI := Lib.hid hpi
    rw [hp] at hle hls
    have hs32 : s < 32 := by omega
    have hp0 : (0 : Int) ≤ (p : Int) := by omega
    have hpN : p ≤ 700 := by
      have := Nat.mul_le_mul (show s ≤ 32 by omega) n6
      omega
    have hw1 : IntKind.i64.wrap ((p : Int) + (c.O : Int)) = (p : Int) + (c.O : Int) := by rw [IntWalk.i64_in] <;> omega
    have hp1 : (p : Int) ≤ (p : Int) + (c.O : Int) := by omega
    have hp2 : (p : Int) + (c.O : Int) ≤ (N : Int) := by omega
    have hp3 : (p : Int) + (c.O : Int) ≤ (k : Int) := by omega
    have HLN : Hid (((p : Int) + (c.O : Int)).toNat - p = c.O) := by
      show _ = _
      omega
    clear hp hpi hw hc
    obtain ⟨R, hR⟩ : ∃ R, listP c g s i = R := ⟨_, rfl⟩
    rw [hR] at hls ⊢
    clear hR
    unfold cV chV
    cases R with
    | none =>
      have HL := Lib.hid hls
      clear hls
      go_enter Try.func85, Try.ntmps85
      go_wp2_with fail
      refine (Apart.rlink_ok HC.out.ok HS.out (k := 0) (by omega) h1).mono ?_
      rintro r w2 ⟨rfl, h2⟩
      rw [HPI.out]
      clear y0 y1 y2 y3 y4 y5
      obtain ⟨y0, y1, y2, y3, y4, y5⟩ := box6 h2
      have H2 := Lib.hid h2
      clear h1 h2
      go_wp2_with fail
      go_region_held3 (fun w' => w'.cell? ⟨b, 0, none⟩ = some (.int .i64 c.C) ∧ w'.cell? ⟨b, 1, none⟩ = some (.int .i64 c.S) ∧ w'.cell? ⟨b, 2, none⟩ = some (.int .i64 c.O) ∧ w'.cell? ⟨b, 3, none⟩ = some (.int .i64 d) ∧ w'.cell? ⟨b, 4, none⟩ = some (.int .i64 e) ∧ w'.cell? ⟨b, 5, none⟩ = some (.int .u64 c.key)) (first | (refine ⟨?_, ?_, ?_, ?_, ?_, ?_⟩ <;> assumption) | go_keep)
        (first | (go_at_call 33; refine (r1key_spec s hs32 H2.out.drew).mono ?_; rintro r w3 ⟨rfl, h3⟩; obtain ⟨y0, y1, y2, y3, y4, y5⟩ := box6 h3) |
          (go_at_call 106; rw [HLN.out]; refine (HL.out _ h3).mono ?_; rintro r w4 ⟨rfl, h4⟩; obtain ⟨y0, y1, y2, y3, y4, y5⟩ := box6 h4))
      go_wp2_with fail
      go_ret2
      exact ⟨rfl, h4.skip⟩
    | some l =>
      have HL := Lib.hid hls
      clear hls
      go_enter Try.func85, Try.ntmps85
      go_wp2_with fail
      refine (Apart.rlink_ok HC.out.ok HS.out (k := 0) (by omega) h1).mono ?_
      rintro r w2 ⟨rfl, h2⟩
      rw [HPI.out]
      clear y0 y1 y2 y3 y4 y5
      obtain ⟨y0, y1, y2, y3, y4, y5⟩ := box6 h2
      have H2 := Lib.hid h2
      clear h1 h2
      go_wp2_with fail
      go_region_held3 (fun w' => w'.cell? ⟨b, 0, none⟩ = some (.int .i64 c.C) ∧ w'.cell? ⟨b, 1, none⟩ = some (.int .i64 c.S) ∧ w'.cell? ⟨b, 2, none⟩ = some (.int .i64 c.O) ∧ w'.cell? ⟨b, 3, none⟩ = some (.int .i64 d) ∧ w'.cell? ⟨b, 4, none⟩ = some (.int .i64 e) ∧ w'.cell? ⟨b, 5, none⟩ = some (.int .u64 c.key)) (first | (refine ⟨?_, ?_, ?_, ?_, ?_, ?_⟩ <;> assumption) | go_keep)
        (first | (go_at_call 33; refine (r1key_spec s hs32 H2.out.drew).mono ?_; rintro r w3 ⟨rfl, h3⟩; obtain ⟨y0, y1, y2, y3, y4, y5⟩ := box6 h3) |
          (go_at_call 106; rw [HLN.out]; refine (HL.out _ h3).mono ?_; rintro r w4 ⟨v4, bs4, rfl, K4, h4⟩; obtain ⟨y0, y1, y2, y3, y4, y5⟩ := box6 (h4.perm List.perm_middle)))
      go_wp2_with fail
      go_ret2
      exact ⟨v4, bs4, rfl, K4, h4.drop1⟩
  · have hnio : (c.O : Int) ≤ i := by omega
    rw [listP_out hnio]
    unfold cV chV
    go_enter Try.func85, Try.ntmps85
    go_wp2_with fail
    go_ret2
    exact ⟨rfl, h1.skip⟩
end
end Go.Proofs.Ytigakendeghoaaa.See

/-
  A map from numbers to numbers that the call owns: look-up, store, delete. No condition but the number of entries.
-/
namespace Go.Proofs.Ytigakendeghoaaa
open Go.RowKit
open Go.Maps (Keyed)
open Go.ChangeMaps (setBlock modify_eq_set)
/-- entries that are a function on numbers -/
structure IM (es : Array MapEntry) (n : Nat) (f : Int → Option Int) : Prop where
  size : es.size ≤ n
  ints : ∀ x ∈ es.toList, ∃ k c, x.key = .int .i64 k ∧ x.val = .int .i64 c ∧ (Lit.int .i64 k).wf = true
  apart : ∀ (i j : Nat) (x y : MapEntry), es.toList[i]? = some x → es.toList[j]? = some y → x.key = y.key → i = j
  fits : ∀ k c, f k = some c ↔ ∃ x ∈ es.toList, x.key = .int .i64 k ∧ x.val = .int .i64 c
def fPut (f : Int → Option Int) (k c : Int) : Int → Option Int := fun j => if j = k then some c else f j
def fDel (f : Int → Option Int) (k : Int) : Int → Option Int := fun j => if j = k then none else f j
theorem IM.nil : IM #[] 0 (fun _ => none) := ⟨by simp, by simp, by simp, by simp⟩
theorem int_keyed' : Keyed Try.prog 3 := Go.Maps.int_keyed Try.underlying3
theorem keyOf_i64 {k : Int} (hk : (Lit.int .i64 k).wf = true) : keyOf Try.prog 3 (.int .i64 k) = some (.int .i64 k) := Go.Maps.keyOf_int_mk Try.underlying3 hk
theorem zero_i64 (w : World) : (zeroValue 3).run Try.prog w = .ok (.int .i64 0) w := by
  have hi : (Try.prog.info? 3).map (fun i => i.zero) = some (some (.int .i64 0)) := by kernel_rfl
  cases h : Try.prog.info? 3 with
  | none => rw [h] at hi; cases hi
  | some i =>
    rw [h] at hi
    simp at hi
    simp [zeroValue, typeInfo, h, hi]
section
variable {w : World} {es : Array MapEntry} {ck n b : Nat} {f : Int → Option Int}
theorem IM.keysOk (h : IM es n f) : ∀ e ∈ es.toList, ∃ l, keyOf Try.prog 3 e.key = some l := fun e he => by
  obtain ⟨k, c, hk, -, hw⟩ := h.ints e he
  exact ⟨_, by rw [hk]; exact keyOf_i64 hw⟩
theorem IM.none_of (h : IM es n f) {k : Int} (hk : ∀ e ∈ es.toList, e.key ≠ .int .i64 k) : f k = none := by
  cases hf : f k with
  | none => rfl
  | some c =>
    obtain ⟨x, hx, h1, -⟩ := (h.fits k c).1 hf
    exact absurd h1 (hk x hx)
theorem run_mapGet (h : IM es n f) (hb : w.heap[b]? = some (.map es ck)) {k : Int} (hk : (Lit.int .i64 k).wf = true) :
    (Instr.lookup 118 (.map (some b)) (.int .i64 k) true).run Try.prog w = .ok (.tuple #[.int .i64 ((f k).getD 0), .bool (f k).isSome]) w := by
  have hkey := keyOf_i64 hk
  have K := int_keyed'
  rcases K.find w hkey es.toList h.keysOk with ⟨h1, h2⟩ | ⟨j, e0, h1, h2, h3⟩
  · have hf := h.none_of h2
    simp [Instr.lookup, run_underlying Try.underlying118, MapKept.run_getObj_map hb, K.check w _ hkey, h1, Result.andThen, hf]
  · have hm := List.mem_of_getElem? h2
    obtain ⟨k', c, e1, e2, -⟩ := h.ints e0 hm
    have hf : f k = some c := (h.fits k c).2 ⟨e0, hm, h3, e2⟩
    simp [Instr.lookup, run_underlying Try.underlying118, MapKept.run_getObj_map hb, K.check w _ hkey, h1, Result.andThen, hf, e2]
theorem run_mapPut (h : IM es n f) (hb : w.heap[b]? = some (.map es ck)) (_hn : n < maxLen) {k : Int} (hk : (Lit.int .i64 k).wf = true) (c : Int) :
    ∃ es' ck', (Instr.mapUpdate 118 (.map (some b)) (.int .i64 k) (.int .i64 c)).run Try.prog w = .ok () (setBlock w b (.map es' ck')) ∧ IM es' (n + 1) (fPut f k c) := by
  have hkey := keyOf_i64 hk
  have K := int_keyed'
  rcases K.find w hkey es.toList h.keysOk with ⟨h1, h2⟩ | ⟨j, e0, h1, h2, h3⟩
  · refine ⟨es.push ⟨.int .i64 k, .int .i64 c, ck⟩, ck + 1, ?_, ⟨by have := h.size; simp; omega, ?_, ?_, ?_⟩⟩
    · simp [Instr.mapUpdate, run_underlying Try.underlying118, MapKept.run_getObj_map hb, K.check w false hkey, h1, MapKept.run_setObj_map _ hb, Result.andThen, setBlock]
    · intro x hx
      simp only [Array.toList_push, List.mem_append, List.mem_singleton] at hx
      rcases hx with hx | rfl
      · exact h.ints x hx
      · exact ⟨k, c, rfl, rfl, hk⟩
    · intro i j x y hx hy hxy
      rw [Array.toList_push, List.getElem?_append] at hx hy
      split at hx <;> split at hy
      · exact h.apart i j x y hx hy hxy
      · have : y = ⟨.int .i64 k, .int .i64 c, ck⟩ := by
          rw [List.getElem?_singleton] at hy; split at hy <;> simp_all
        subst this
        exact absurd hxy (h2 x (List.mem_of_getElem? hx))
      · have : x = ⟨.int .i64 k, .int .i64 c, ck⟩ := by
          rw [List.getElem?_singleton] at hx; split at hx <;> simp_all
        subst this
        exact absurd hxy.symm (h2 y (List.mem_of_getElem? hy))
      · rw [List.getElem?_singleton] at hx hy
        split at hx <;> split at hy <;> first | omega | simp_all
    · intro q d
      simp only [Array.toList_push, List.mem_append, List.mem_singleton, fPut]
      by_cases hq : q = k
      · subst hq
        rw [if_pos rfl]
        constructor
        · intro hd
          simp only [Option.some.injEq] at hd
          subst hd
          exact ⟨_, .inr rfl, rfl, rfl⟩
        · rintro ⟨x, hx | rfl, e1, e2⟩
          · exact absurd e1 (h2 x hx)
          · simp only [Value.int.injEq, true_and] at e2
            rw [e2]
      · rw [if_neg hq, h.fits q d]
        constructor
        · rintro ⟨x, hx, e1, e2⟩
          exact ⟨x, .inl hx, e1, e2⟩
        · rintro ⟨x, hx | rfl, e1, e2⟩
          · exact ⟨x, hx, e1, e2⟩
          · simp only [Value.int.injEq, true_and] at e1
            exact absurd e1.symm hq
  · have hj : es[j]? = some e0 := by simpa using h2
    have hjl : j < es.toList.length := (List.getElem?_eq_some_iff.1 h2).1
    have hlist : (es.modify j (fun e' => { e' with key := .int .i64 k, val := .int .i64 c })).toList = es.toList.set j { e0 with key := .int .i64 k, val := .int .i64 c } := by rw [Array.toList_modify, modify_eq_set _ _ _ _ h2]
    have hget : ∀ i, (es.toList.set j { e0 with key := .int .i64 k, val := .int .i64 c })[i]? = if i = j then some { e0 with key := .int .i64 k, val := .int .i64 c } else es.toList[i]? := fun i => by
      rw [List.getElem?_set]
      by_cases hij : j = i
      · subst hij; rw [if_pos rfl, if_pos rfl, if_pos hjl]
      · rw [if_neg hij, if_neg (fun e => hij e.symm)]
    have hmem : ∀ x, x ∈ es.toList.set j { e0 with key := .int .i64 k, val := .int .i64 c } ↔ x = { e0 with key := .int .i64 k, val := .int .i64 c } ∨ (x ∈ es.toList ∧ x.key ≠ .int .i64 k) := fun x => by
      constructor
      · intro hx
        obtain ⟨i, hi⟩ := List.getElem?_of_mem hx
        rw [hget] at hi
        split at hi
        · exact .inl (Option.some.inj hi).symm
        · rename_i hij
          exact .inr ⟨List.mem_of_getElem? hi, fun e => hij (h.apart i j x e0 hi h2 (e.trans h3.symm))⟩
      · rintro (rfl | ⟨hx, hne⟩)
        · exact List.mem_iff_getElem?.2 ⟨j, by rw [hget, if_pos rfl]⟩
        · obtain ⟨i, hi⟩ := List.getElem?_of_mem hx
          refine List.mem_iff_getElem?.2 ⟨i, ?_⟩
          rw [hget, if_neg, hi]
          rintro rfl
          rw [h2] at hi
          cases hi
          exact hne h3
    refine ⟨es.modify j (fun e' => { e' with key := .int .i64 k, val := .int .i64 c }), ck, ?_, ⟨by have := h.size; simp; omega, ?_, ?_, ?_⟩⟩
    · simp [Instr.mapUpdate, run_underlying Try.underlying118, MapKept.run_getObj_map hb, K.check w false hkey, h1, hj, h3, K.stays w hkey, MapKept.run_setObj_map _ hb, Result.andThen, setBlock]
    · intro x hx
      rw [hlist] at hx
      rcases (hmem x).1 hx with rfl | ⟨hx, -⟩
      · exact ⟨k, c, rfl, rfl, hk⟩
      · exact h.ints x hx
    · intro i i' x y hx hy hxy
      rw [hlist, hget] at hx hy
      split at hx <;> split at hy
      · omega
      · cases hx
        rename_i h5 h6
        exact absurd (h.apart i' j y e0 hy h2 (hxy.symm.trans h3.symm)) h6
      · cases hy
        rename_i h5 h6
        exact absurd (h.apart i j x e0 hx h2 (hxy.trans h3.symm)) h5
      · exact h.apart i i' x y hx hy hxy
    · intro q d
      rw [hlist]
      simp only [fPut]
      by_cases hq : q = k
      · subst hq
        rw [if_pos rfl]
        constructor
        · intro hd
          simp only [Option.some.injEq] at hd
          subst hd
          exact ⟨_, (hmem _).2 (.inl rfl), rfl, rfl⟩
        · rintro ⟨x, hx, e1, e2⟩
          rcases (hmem x).1 hx with rfl | ⟨-, hne⟩
          · simp only [Value.int.injEq, true_and] at e2
            rw [e2]
          · exact absurd e1 hne
      · rw [if_neg hq, h.fits q d]
        constructor
        · rintro ⟨x, hx, e1, e2⟩
          exact ⟨x, (hmem x).2 (.inr ⟨hx, by rw [e1]; intro he; simp only [Value.int.injEq, true_and] at he; exact hq he⟩), e1, e2⟩
        · rintro ⟨x, hx, e1, e2⟩
          rcases (hmem x).1 hx with rfl | ⟨hx, -⟩
          · simp only [Value.int.injEq, true_and] at e1
            exact absurd e1.symm hq
          · exact ⟨x, hx, e1, e2⟩
theorem run_mapDel (h : IM es n f) (hb : w.heap[b]? = some (.map es ck)) {k : Int} (hk : (Lit.int .i64 k).wf = true) (ty : TypeId) :
    ∃ es', (Builtin.delete_ #[118, 3] ty #[.map (some b), .int .i64 k]).run Try.prog w = .ok (.tuple #[]) (setBlock w b (.map es' ck)) ∧ IM es' n (fDel f k) := by
  have hkey := keyOf_i64 hk
  have K := int_keyed'
  rcases K.find w hkey es.toList h.keysOk with ⟨h1, h2⟩ | ⟨j, e0, h1, h2, h3⟩
  · refine ⟨es, ?_, ⟨h.size, h.ints, h.apart, ?_⟩⟩
    · simp [Builtin.delete_, run_underlying Try.underlying118, MapKept.run_getObj_map hb, K.check w _ hkey, h1, MapKept.run_setObj_map _ hb, Result.andThen, setBlock]
    · intro q d
      simp only [fDel]
      by_cases hq : q = k
      · subst hq
        rw [if_pos rfl]
        constructor
        · intro hd; cases hd
        · rintro ⟨x, hx, e1, -⟩
          exact absurd e1 (h2 x hx)
      · rw [if_neg hq]; exact h.fits q d
  · have hjl : j < es.toList.length := (List.getElem?_eq_some_iff.1 h2).1
    have hjs : j < es.size := by simpa using hjl
    have hsub : (es.eraseIdxIfInBounds j).toList = es.toList.eraseIdx j := by
      unfold Array.eraseIdxIfInBounds
      rw [dif_pos hjs]
      simp
    have hmem : ∀ x, x ∈ es.toList.eraseIdx j ↔ x ∈ es.toList ∧ x.key ≠ .int .i64 k := fun x => by
      rw [List.mem_eraseIdx_iff_getElem?]
      constructor
      · rintro ⟨i, hne, hi⟩
        exact ⟨List.mem_of_getElem? hi, fun e => hne (h.apart i j x e0 hi h2 (e.trans h3.symm))⟩
      · rintro ⟨hx, hne⟩
        obtain ⟨i, hi⟩ := List.getElem?_of_mem hx
        refine ⟨i, ?_, hi⟩
        rintro rfl
        rw [h2] at hi
        cases hi
        exact hne h3
    refine ⟨es.eraseIdxIfInBounds j, ?_, ⟨Nat.le_trans (MapFrom.size_erase es j) h.size, ?_, ?_, ?_⟩⟩
    · simp [Builtin.delete_, run_underlying Try.underlying118, MapKept.run_getObj_map hb, K.check w _ hkey, h1, MapKept.run_setObj_map _ hb, Result.andThen, setBlock]
    · intro x hx
      rw [hsub] at hx
      exact h.ints x ((hmem x).1 hx).1
    · intro i i' x y hx hy hxy
      rw [hsub, List.getElem?_eraseIdx] at hx hy
      split at hx <;> split at hy <;> have := h.apart _ _ x y hx hy hxy <;> omega
    · intro q d
      rw [hsub]
      simp only [fDel]
      by_cases hq : q = k
      · subst hq
        rw [if_pos rfl]
        constructor
        · intro hd; cases hd
        · rintro ⟨x, hx, e1, -⟩
          exact absurd e1 ((hmem x).1 hx).2
      · rw [if_neg hq, h.fits q d]
        constructor
        · rintro ⟨x, hx, e1, e2⟩
          exact ⟨x, (hmem x).2 ⟨hx, by rw [e1]; intro he; simp only [Value.int.injEq, true_and] at he; exact hq he⟩, e1, e2⟩
        · rintro ⟨x, hx, e1, e2⟩
          exact ⟨x, ((hmem x).1 hx).1, e1, e2⟩
end
section
variable {W w : World} {m : List (Nat × Obj)} {b : Nat} {o : Obj} {es : Array MapEntry} {ck : Nat}
theorem Own.setMap (h : Own W ((b, .map es ck) :: m) w) (es' : Array MapEntry) (ck' : Nat) : Own W ((b, .map es' ck') :: m) (setBlock w b (.map es' ck')) := by
  have hg := h.get (List.mem_cons_self)
  have hge := h.ge (List.mem_cons_self)
  have hlt := heap_lt hg
  have hother : ∀ k, k ≠ b → (setBlock w b (.map es' ck')).heap[k]? = w.heap[k]? := fun k hk => by
    simp only [setBlock]
    rw [Array.getElem?_setIfInBounds, if_neg (fun e => hk e.symm)]
  have hb := h.below
  refine ⟨⟨hb.os, hb.tape, hb.output, by simpa [setBlock] using hb.size, fun k hk => ?_⟩, fun p hm => ?_, h.nd⟩
  · rw [hother k (by omega)]; exact hb.block k hk
  · rcases List.mem_cons.1 hm with rfl | hm
    · exact ⟨hge, by simp [setBlock, hlt]⟩
    · exact ⟨(h.at_ p (List.mem_cons_of_mem _ hm)).1, (hother p.1 (Own.ne h (b' := p.1) (o' := p.2) hm)).trans (h.at_ p (List.mem_cons_of_mem _ hm)).2⟩
end
section
variable {W w : World} {M : List (Nat × Obj)} {es : Array MapEntry} {ck n b : Nat} {f : Int → Option Int}
variable {ops : Array Oper} {rest : List Oper} {o : Oper} {a : Act} {Q : Exit → Act → World → Prop}
/-- '(at_lookup; refine wpList_mapGet rfl _ _ rfl rfl rfl hIM hb hk ?_)' -/
theorem wpList_mapGet (hg : o.guard = none) (m x : Operand) (hop : o.op = Op.lookup 118 m x true) {k : Int} (hm : a.eval m = .map (some b)) (hx : a.eval x = .int .i64 k)
    (h : IM es n f) (hb : w.heap[b]? = some (.map es ck)) (hk : (Lit.int .i64 k).wf = true)
    (hK : wpList Try.prog ops Q rest (a.put o.dst (.tuple #[.int .i64 ((f k).getD 0), .bool (f k).isSome])) w) : wpList Try.prog ops Q (o :: rest) a w := by
  refine wpList_plain hg fun K' hK' => ?_
  unfold Oper.wp
  simp [execOp, hop, hm, hx, run_mapGet h hb hk, Result.andThen]
  exact hK' _ _ hK
/-- '(at_mapUpdate; refine wpList_mapPut rfl _ _ _ rfl rfl rfl rfl hIM hO hn hk ?_; intro es' ck' k1 k2)' -/
theorem wpList_mapPut (hg : o.guard = none) (m x v : Operand) (hop : o.op = Op.mapUpdate 118 m x v) {k c : Int} (hm : a.eval m = .map (some b)) (hx : a.eval x = .int .i64 k) (hv : a.eval v = .int .i64 c)
    (h : IM es n f) (hO : Own W ((b, .map es ck) :: M) w) (hn : n < maxLen) (hk : (Lit.int .i64 k).wf = true)
    (hK : ∀ es' ck' w', IM es' (n + 1) (fPut f k c) → Own W ((b, .map es' ck') :: M) w' → wpList Try.prog ops Q rest (a.put o.dst undef) w') : wpList Try.prog ops Q (o :: rest) a w := by
  refine wpList_plain hg fun K' hK' => ?_
  obtain ⟨es', ck', hrun, h1⟩ := run_mapPut h (hO.get List.mem_cons_self) hn hk c
  unfold Oper.wp
  simp [execOp, hop, hm, hx, hv, hrun, Result.andThen]
  exact hK' _ _ (hK es' ck' _ h1 (hO.setMap es' ck'))
/-- '(at_delete; refine wpList_mapDel rfl _ _ rfl rfl rfl hIM hO hk ?_; intro es' w' k1 k2)' -/
theorem wpList_mapDel (hg : o.guard = none) (m x : Operand) (hop : o.op = Op.call { callee := Callee.builtin Builtin.delete, args := #[m, x], argTypes := #[118, 3] }) {k : Int} (hm : a.eval m = .map (some b)) (hx : a.eval x = .int .i64 k)
    (h : IM es n f) (hO : Own W ((b, .map es ck) :: M) w) (hk : (Lit.int .i64 k).wf = true)
    (hK : ∀ es' w', IM es' n (fDel f k) → Own W ((b, .map es' ck) :: M) w' → wpList Try.prog ops Q rest (a.put o.dst (.tuple #[])) w') : wpList Try.prog ops Q (o :: rest) a w := by
  refine wpList_plain hg fun K' hK' => ?_
  obtain ⟨es', hrun, h1⟩ := run_mapDel h (hO.get List.mem_cons_self) hk o.type
  unfold Oper.wp
  simp [execOp, hop, resolve, invoke, builtin, hm, hx, hrun, Result.andThen]
  exact hK' _ _ (hK es' _ h1 (hO.setMap es' ck))
end
end Go.Proofs.Ytigakendeghoaaa

/-
  Contracts: slabs, one behind the other (reader.chain). No condition. (Printed by mkchain.py.)
-/
namespace Go.Proofs.Ytigakendeghoaaa.See
open Go.RowKit
open chartPlaces (Ok)
attribute [local go_sem ↓] Go.wp_at_zero Go.wp_at_succ
section
variable {W w : World} {M m : List (Nat × Obj)} {B o N k b ck n : Nat} {g : List Nat} {c : Ch} {d e : Int} {es : Array MapEntry} {f : Int → Option Int}
theorem run_mapAt (h : IM es n f) (hb : w.heap[b]? = some (.map es ck)) {k : Int} (hk : (Lit.int .i64 k).wf = true) :
    (Instr.lookup 118 (.map (some b)) (.int .i64 k) false).run Try.prog w = .ok (.int .i64 ((f k).getD 0)) w := by
  have hkey := keyOf_i64 hk
  have K := int_keyed'
  rcases K.find w hkey es.toList h.keysOk with ⟨h1, h2⟩ | ⟨j, e0, h1, h2, h3⟩
  · have hf := h.none_of h2
    simp [Instr.lookup, run_underlying Try.underlying118, MapKept.run_getObj_map hb, K.check w _ hkey, h1, Result.andThen, hf]
  · have hm := List.mem_of_getElem? h2
    obtain ⟨k', c, e1, e2, -⟩ := h.ints e0 hm
    have hf : f k = some c := (h.fits k c).2 ⟨e0, hm, h3, e2⟩
    simp [Instr.lookup, run_underlying Try.underlying118, MapKept.run_getObj_map hb, K.check w _ hkey, h1, Result.andThen, hf, e2]
theorem wpList_mapAt {ops : Array Oper} {rest : List Oper} {o : Oper} {a : Act} {Q : Exit → Act → World → Prop} (hg : o.guard = none) (m x : Operand) (hop : o.op = Op.lookup 118 m x false) {k : Int} (hm : a.eval m = .map (some b)) (hx : a.eval x = .int .i64 k)
    (h : IM es n f) (hb : w.heap[b]? = some (.map es ck)) (hk : (Lit.int .i64 k).wf = true)
    (hK : wpList Try.prog ops Q rest (a.put o.dst (.int .i64 ((f k).getD 0))) w) : wpList Try.prog ops Q (o :: rest) a w := by
  refine wpList_plain hg fun K' hK' => ?_
  unfold Oper.wp
  simp [execOp, hop, hm, hx, run_mapAt h hb hk, Result.andThen]
  exact hK' _ _ hK
/-- which slabs were seen -/
def seen (out : List Int) : Int → Option Int := fun s => if s ∈ out then some 1 else none
theorem seen_put (out : List Int) (s : Int) : fPut (seen out) s 1 = seen (out ++ [s]) := by
  funext j
  unfold fPut seen
  by_cases hj : j = s
  · subst hj; simp
  · by_cases ho : j ∈ out <;> simp [hj, ho]
theorem seen_nil : seen [] = fun _ => none := by
  funext j
  simp [seen]
theorem seen_yes {out : List Int} {s : Int} (h : s ∈ out) : (seen out s).getD 0 = 1 := by simp [seen, h]
theorem seen_no {out : List Int} {s : Int} (h : s ∉ out) : (seen out s).getD 0 = 0 := by simp [seen, h]
/-- what a word says of a slab -/
def OfPost (r : Option Int) (e : Ending) : Prop := match r with
  | some s => e = .returned (.tuple #[.int .i64 s, .bool true])
  | none => ∃ v : Int, e = .returned (.tuple #[.int .i64 v, .bool false])
def ofP (w : Nat) : Option Int := (partOf w).map (·.1)
set_option maxRecDepth 100000 in
theorem ofP_spec (x : Nat) (hx : x < 18446744073709551616) (w : World) : Calls Try.prog 82 #[.int .u64 x] w fun e w' => OfPost (ofP x) e ∧ w = w' := by
  have hp := fun w => partOf_spec x hx w
  unfold partV at hp
  unfold ofP
  clear hx
  cases hc : partOf x with
  | none =>
    rw [hc] at hp
    have HP := Lib.hid hp
    clear hp hc
    go_enter Try.func82, Try.ntmps82
    go_wp2_with (go_at_call 104; refine (HP.out _).mono ?_; rintro e w' ⟨rfl, rfl⟩)
    go_ret2
    exact ⟨⟨_, rfl⟩, rfl⟩
  | some q =>
    obtain ⟨s, n⟩ := q
    rw [hc] at hp
    have HP := Lib.hid hp
    clear hp hc
    go_enter Try.func82, Try.ntmps82
    go_wp2_with (go_at_call 104; refine (HP.out _).mono ?_; rintro e w' ⟨rfl, rfl⟩)
    go_ret2
    exact ⟨rfl, rfl⟩
theorem ofP_ge {w : Nat} {s : Int} (h : ofP w = some s) : -1 ≤ s ∧ s < 32 := by
  unfold ofP partOf at h
  split at h
  · simp at h; omega
  · split at h
    · simp at h; omega
    · cases h
theorem ofS_ge {w : Nat} {s : Int} (h : shelfOf w = some s) : -1 ≤ s ∧ s < 32 := by
  unfold shelfOf at h
  split at h
  · simp at h; omega
  · cases h
set_option maxRecDepth 100000 in
theorem ofS_spec (x : Nat) (hx : x < 18446744073709551616) (w : World) : Calls Try.prog 66 #[.int .u64 x] w fun e w' => OfPost (shelfOf x) e ∧ w = w' := by
  unfold shelfOf
  by_cases hc : x ≤ 32
  · rw [if_pos hc]
    have hci : decide ((x : Int) ≤ 32) = true := decide_eq_true (by omega)
    clear hx
    go_enter Try.func66, Try.ntmps66
    go_wp2_with fail
    go_ret2
    exact ⟨rfl, rfl⟩
  · rw [if_neg hc]
    have hci : decide ((x : Int) ≤ 32) = false := decide_eq_false (by omega)
    clear hx
    go_enter Try.func66, Try.ntmps66
    go_wp2_with fail
    go_ret2
    exact ⟨⟨_, rfl⟩, rfl⟩
/-- what chain answers -/
def ChPost (W : World) (m : List (Nat × Obj)) (r : Option (List Int)) (e : Ending) (w' : World) : Prop := match r with
  | some l => ∃ v bs, e = .returned (.tuple #[v, .bool true]) ∧ Hid (IntsOwn true v l bs) ∧ Own W (bs ++ m) w'
  | none => e = .returned (.tuple #[.slice none 0 0, .bool false]) ∧ Own W m w'
set_option maxRecDepth 100000 in
set_option maxHeartbeats 4000000 in
theorem rchain_p (h : Own W m w) (hc : COk c d e) (hw : WOk W m B o N k g c) (x0 : Nat) (hx0 : x0 < 18446744073709551616) :
    Calls Try.prog 65 #[rV B o N k c d e, .int .u64 x0, .func (.func 82) #[] #[]] w (ChPost W m (chain ofP (nextAt c g) c.S (c.S + 1) [] x0)) := by
  obtain ⟨n1, n2, n3, n4, n5, n6⟩ := hc.nums
  have h1 := (h.new (.cells #[.slice (some ⟨B, o, none⟩) N k, .int .i64 c.C, .int .i64 c.S, .int .i64 c.O, .int .i64 d, .int .i64 e, .int .u64 c.key] 84)).new (.map #[] 0)
  obtain ⟨b, hb⟩ : ∃ b, w.heap.size = b := ⟨_, rfl⟩
  simp only [World.size_alloc] at h1
  rw [hb] at h1
  have h1 : Own W ((b + 1, .map #[] 0) :: (rBlk b B o N k c d e :: m)) _ := h1
  obtain ⟨R, hR⟩ : ∃ R, chain ofP (nextAt c g) c.S (c.S + 1) [] x0 = R := ⟨_, rfl⟩
  have HR := Lib.hid hR
  have HC := Lib.hid hc
  have HW := Lib.hid hw
  have HX0 := Lib.hid hx0
  have him : IM #[] 0 (seen []) := by rw [seen_nil]; exact IM.nil
  have HIM := Lib.hid him
  rw [hR]
  clear hR hc hx0 him hw
  have hmm := fun w : World => run_makeMap (P := Try.prog) 118 w
  unfold rV
  go_enter Try.func65, Try.ntmps65
  go_wp2_with fail
  clear hmm
  obtain ⟨wa, hwa⟩ : ∃ wa, (w.alloc (.cells #[.slice (some ⟨B, o, none⟩) N k, .int .i64 c.C, .int .i64 c.S, .int .i64 c.O, .int .i64 d, .int .i64 e, .int .u64 c.key] 84)).alloc (.map #[] 0) = wa := ⟨_, rfl⟩
  rw [hwa] at h1 ⊢
  have H1 := Lib.hid h1
  clear h1 hwa h hb
  go_loopw [1, 6] (fun xv ov wr => ∃ (x : Nat) (out : List Int) (bs : List (Nat × Obj)) (es : Array MapEntry) (ck : Nat), xv = .int .u64 x ∧ Hid (x < 18446744073709551616) ∧ Hid (out.Nodup ∧ ∀ y ∈ out, 0 ≤ y ∧ y < c.S) ∧ Hid (chain ofP (nextAt c g) c.S (c.S + 1 - out.length) out x = R) ∧ Hid (IntsOwn true ov out bs) ∧ Hid (IM es out.length (seen out)) ∧ Own W ((b + 1, .map es ck) :: (bs ++ (rBlk b B o N k c d e :: m))) wr) (fun _ ov _ => 33 - slLen ov)
  case atStart => exact ⟨x0, [], [], #[], 0, rfl, HX0, ⟨List.nodup_nil, fun x hx => (by simp at hx)⟩, HR, SlO.nil _ _ _, HIM, H1.out⟩
  case round =>
    clear H1 HR HX0 HIM
    obtain ⟨x, out, bs, es, ck, rfl, HX, HND, HWK, HO, HIM, hr⟩ := hrel
    obtain ⟨A8, c8, hv, -, -⟩ := HO.out.slice
    subst hv
    have hfew := few HND.out.1 HND.out.2
    obtain ⟨z, hz⟩ : ∃ z, out.length = z := ⟨_, rfl⟩
    have HZ := Lib.hid hz
    rw [hz] at hfew
    have hO2 : IntsOwn true (.slice A8 z c8) out bs := by have := HO.out; rw [hz] at this; exact this
    have HO2 := Lib.hid hO2
    have hof := fun w => ofP_spec x HX.out w
    have hk := HWK.out
    rw [hz, show c.S + 1 - z = (c.S - z) + 1 by omega] at hk
    unfold chain at hk
    rw [hz]
    have HRW := Lib.hid hr
    have hrb := (hr.skip.perm List.perm_middle)
    obtain ⟨y0, y1, y2, y3, y4, y5, y6⟩ := box7 hrb
    clear hO2 HWK hz
    cases hs : ofP x with
    | none =>
      rw [hs] at hof hk
      have HOF := Lib.hid hof
      have HK2 := Lib.hid hk
      clear hof hk hs hrb
      go_wp2_with (go_at_call 82; refine (HOF.out _).mono ?_; rintro e w5 ⟨⟨v5, rfl⟩, rfl⟩)
      go_ret2
      rw [← HK2.out]
      exact ⟨rfl, hr.skip.dropL.skip⟩
    | some s =>
      rw [hs] at hof hk
      simp only at hk
      have HOF := Lib.hid hof
      obtain ⟨s0, s1⟩ := ofP_ge hs
      clear hof hs
      by_cases hS : (c.S : Int) ≤ s
      · rw [if_pos (.inl hS)] at hk
        have HK2 := Lib.hid hk
        clear hk hrb
        go_wp2_with (go_at_call 82; refine (HOF.out _).mono ?_; rintro e w5 ⟨rfl, rfl⟩)
        go_ret2
        rw [← HK2.out]
        exact ⟨rfl, hr.skip.dropL.skip⟩
      · have hSn : ¬ (c.S : Int) ≤ s := hS
        have hwf : (Lit.int .i64 s).wf = true := by simp [Lit.wf, IntKind.min, IntKind.max, IntKind.signed, IntKind.bits]; omega
        have HWF := Lib.hid hwf
        have hgm := hr.get List.mem_cons_self
        clear hwf
        by_cases hin : s ∈ out
        · rw [if_pos (.inr hin)] at hk
          have HK2 := Lib.hid hk
          have hg1 := seen_yes hin
          clear hk hrb
          go_wp2_with (first | (go_at_call 82; refine (HOF.out _).mono ?_; rintro e w5 ⟨rfl, rfl⟩) | (at_lookup; refine wpList_mapAt rfl _ _ rfl rfl rfl HIM.out hgm HWF.out ?_; rw [hg1]))
          go_ret2
          rw [← HK2.out]
          exact ⟨rfl, hr.skip.dropL.skip⟩
        · rw [if_neg (by intro hh; exact hh.elim hS hin)] at hk
          have hg1 := seen_no hin
          by_cases hm1 : s = -1
          · rw [if_pos hm1] at hk
            subst hm1
            have HK2 := Lib.hid hk
            clear hk hrb
            go_wp2_with (first | (go_at_call 82; refine (HOF.out _).mono ?_; rintro e w5 ⟨rfl, rfl⟩) | (at_lookup; refine wpList_mapAt rfl _ _ rfl rfl rfl HIM.out hgm HWF.out ?_; rw [hg1]))
            go_ret2
            rw [← HK2.out]
            exact ⟨_, bs, rfl, HO2, hr.skip.drop1⟩
          · rw [if_neg hm1] at hk
            have hsb : (s == -1) = false := beq_eq_false_iff_ne.2 hm1
            obtain ⟨j, rfl⟩ : ∃ j : Nat, s = j := ⟨s.toNat, by omega⟩
            have hjS : j < c.S := by omega
            have hji : 0 ≤ (j : Int) ∧ (j : Int) < (c.S : Int) := by omega
            have HJ := Lib.hid hji
            have hN := HW.out.n
            unfold Ch.words at hN
            have hpN : 4 * c.C + 4 + 4 * j + 2 < N := by omega
            obtain ⟨p, hp⟩ : ∃ p : Nat, 4 * c.C + 4 + 4 * j + 2 = p := ⟨_, rfl⟩
            have hpi : 4 * (c.C : Int) + 4 + 4 * (j : Int) + 2 = (p : Int) := by omega
            have HPI := Lib.hid hpi
            rw [hp] at hpN
            have hp0 : (0 : Int) ≤ (p : Int) := by omega
            have hp1 : (p : Int) < (N : Int) := by omega
            obtain ⟨x', hx'⟩ : ∃ x', g[p]? = some x' := ⟨_, List.getElem?_eq_getElem (by rw [HW.out.len]; exact hpN)⟩
            have hna : nextAt c g (j : Int) = x' := by
              unfold nextAt at_
              rw [Int.toNat_natCast, hp, List.getD_eq_getElem?_getD, hx']
              rfl
            rw [hna] at hk
            have HX' : Hid (x' < 18446744073709551616) := HW.out.w64 x' (List.mem_of_getElem? hx')
            have HXP := Lib.hid hx'
            have hlt := few_lt HND.out.1 HND.out.2 hji.1 hji.2 hin
            rw [HZ.out] at hlt
            have HND2 : Hid ((out ++ [(j : Int)]).Nodup ∧ ∀ y ∈ out ++ [(j : Int)], 0 ≤ y ∧ y < c.S) := by
              refine ⟨List.nodup_append.2 ⟨HND.out.1, by simp, fun a ha b hb he => ?_⟩, fun y hy => ?_⟩
              · simp at hb
                subst hb
                subst he
                exact hin ha
              · rcases List.mem_append.1 hy with hy | hy
                · exact HND.out.2 y hy
                · simp at hy
                  subst hy
                  exact hji
            have HK2 : Hid (chain ofP (nextAt c g) c.S (c.S + 1 - (out ++ [(j : Int)]).length) (out ++ [(j : Int)]) x' = R) := by
              show _ = _
              rw [List.length_append, HZ.out, List.length_singleton, show c.S + 1 - (z + 1) = c.S - z by omega]
              exact hk
            have HLEN : Hid (out.length + [(j : Int)].length ≤ 60000) := by
              show _ ≤ _
              rw [HZ.out]
              simp
              omega
            have HLM : Hid (out.length < maxLen) := by
              show _ < _
              rw [HZ.out]
              unfold maxLen
              omega
            clear hk hN hp hpi hx' hna hrb
            go_wp2_with (first | (go_at_call 82; refine (HOF.out _).mono ?_; rintro e w5 ⟨rfl, rfl⟩) | (at_lookup; refine wpList_mapAt rfl _ _ rfl rfl rfl HIM.out hgm HWF.out ?_; rw [hg1]) |
              (at_mapUpdate; refine wpList_mapPut rfl _ _ _ rfl rfl rfl rfl HIM.out HRW.out HLM.out HWF.out ?_; intro es' ck' w' k1 k2; rw [seen_put] at k1; have K1 := Lib.hid k1; have H2 := Lib.hid ((k2.perm List.perm_middle.symm).alloc (.cells #[.int .i64 (j : Int)] 3)); have HSRC := Lib.hid (src_one w' (j : Int)); clear k1 k2 y0 y1 y2 y3 y4 y5 y6 hgm) |
              (at_builtin; refine wpList_app_ints rfl _ _ rfl rfl rfl HO2.out H2.out HSRC.out HLEN.out ?_; intro v' w' bs' q1 q2 q3; have Q1 := Lib.hid q1; have Q2 := Lib.hid q2; obtain ⟨y0, y1, y2, y3, y4, y5, y6⟩ := box7 q2.dropL.skip; have cx := HW.out.rd _ q2.dropL.skip.skip p x' HXP.out; clear q1 q2 q3))
            go_region_held3 (fun w' => w'.cell? ⟨b, 0, none⟩ = some (.slice (some ⟨B, o, none⟩) N k) ∧ w'.cell? ⟨b, 1, none⟩ = some (.int .i64 c.C) ∧ w'.cell? ⟨b, 2, none⟩ = some (.int .i64 c.S) ∧ w'.cell? ⟨b, 3, none⟩ = some (.int .i64 c.O) ∧ w'.cell? ⟨b, 4, none⟩ = some (.int .i64 d) ∧ w'.cell? ⟨b, 5, none⟩ = some (.int .i64 e) ∧ w'.cell? ⟨b, 6, none⟩ = some (.int .u64 c.key) ∧ w'.cell? ⟨B, o + p, none⟩ = some (.int .u64 (x' : Int))) (first | (refine ⟨?_, ?_, ?_, ?_, ?_, ?_, ?_, ?_⟩ <;> assumption) | go_keep)
              (first | (go_at_call 19; refine (Apart.next_ok HC.out.ok HJ.out Q2.out.drew).mono ?_; rintro r w6 ⟨rfl, h6⟩; rw [HPI.out]; obtain ⟨y0, y1, y2, y3, y4, y5, y6⟩ := box7 h6.dropL.skip; have cx := HW.out.rd _ h6.dropL.skip.skip p x' HXP.out))
            go_wp2_with fail
            obtain ⟨A9, c9, hv9, -, -⟩ := Q1.out.slice
            rw [List.length_append, HZ.out, List.length_singleton] at hv9
            refine ⟨⟨x', _, bs', es', ck', rfl, HX', HND2, HK2, Q1, ?_, ?_⟩, ?_⟩
            · show IM es' (out ++ [(j : Int)]).length _
              rw [List.length_append, List.length_singleton]
              exact K1.out
            · exact h6.perm List.perm_middle
            · rw [hv9]
              simp [slLen]
              omega
set_option maxRecDepth 100000 in
set_option maxHeartbeats 4000000 in
theorem rchain_s (h : Own W m w) (hc : COk c d e) (hw : WOk W m B o N k g c) (x0 : Nat) (hx0 : x0 < 18446744073709551616) :
    Calls Try.prog 65 #[rV B o N k c d e, .int .u64 x0, .func (.func 66) #[] #[]] w (ChPost W m (chain shelfOf (nextAt c g) c.S (c.S + 1) [] x0)) := by
  obtain ⟨n1, n2, n3, n4, n5, n6⟩ := hc.nums
  have h1 := (h.new (.cells #[.slice (some ⟨B, o, none⟩) N k, .int .i64 c.C, .int .i64 c.S, .int .i64 c.O, .int .i64 d, .int .i64 e, .int .u64 c.key] 84)).new (.map #[] 0)
  obtain ⟨b, hb⟩ : ∃ b, w.heap.size = b := ⟨_, rfl⟩
  simp only [World.size_alloc] at h1
  rw [hb] at h1
  have h1 : Own W ((b + 1, .map #[] 0) :: (rBlk b B o N k c d e :: m)) _ := h1
  obtain ⟨R, hR⟩ : ∃ R, chain shelfOf (nextAt c g) c.S (c.S + 1) [] x0 = R := ⟨_, rfl⟩
  have HR := Lib.hid hR
  have HC := Lib.hid hc
  have HW := Lib.hid hw
  have HX0 := Lib.hid hx0
  have him : IM #[] 0 (seen []) := by rw [seen_nil]; exact IM.nil
  have HIM := Lib.hid him
  rw [hR]
  clear hR hc hx0 him hw
  have hmm := fun w : World => run_makeMap (P := Try.prog) 118 w
  unfold rV
  go_enter Try.func65, Try.ntmps65
  go_wp2_with fail
  clear hmm
  obtain ⟨wa, hwa⟩ : ∃ wa, (w.alloc (.cells #[.slice (some ⟨B, o, none⟩) N k, .int .i64 c.C, .int .i64 c.S, .int .i64 c.O, .int .i64 d, .int .i64 e, .int .u64 c.key] 84)).alloc (.map #[] 0) = wa := ⟨_, rfl⟩
  rw [hwa] at h1 ⊢
  have H1 := Lib.hid h1
  clear h1 hwa h hb
  go_loopw [1, 6] (fun xv ov wr => ∃ (x : Nat) (out : List Int) (bs : List (Nat × Obj)) (es : Array MapEntry) (ck : Nat), xv = .int .u64 x ∧ Hid (x < 18446744073709551616) ∧ Hid (out.Nodup ∧ ∀ y ∈ out, 0 ≤ y ∧ y < c.S) ∧ Hid (chain shelfOf (nextAt c g) c.S (c.S + 1 - out.length) out x = R) ∧ Hid (IntsOwn true ov out bs) ∧ Hid (IM es out.length (seen out)) ∧ Own W ((b + 1, .map es ck) :: (bs ++ (rBlk b B o N k c d e :: m))) wr) (fun _ ov _ => 33 - slLen ov)
  case atStart => exact ⟨x0, [], [], #[], 0, rfl, HX0, ⟨List.nodup_nil, fun x hx => (by simp at hx)⟩, HR, SlO.nil _ _ _, HIM, H1.out⟩
  case round =>
    clear H1 HR HX0 HIM
    obtain ⟨x, out, bs, es, ck, rfl, HX, HND, HWK, HO, HIM, hr⟩ := hrel
    obtain ⟨A8, c8, hv, -, -⟩ := HO.out.slice
    subst hv
    have hfew := few HND.out.1 HND.out.2
    obtain ⟨z, hz⟩ : ∃ z, out.length = z := ⟨_, rfl⟩
    have HZ := Lib.hid hz
    rw [hz] at hfew
    have hO2 : IntsOwn true (.slice A8 z c8) out bs := by have := HO.out; rw [hz] at this; exact this
    have HO2 := Lib.hid hO2
    have hof := fun w => ofS_spec x HX.out w
    have hk := HWK.out
    rw [hz, show c.S + 1 - z = (c.S - z) + 1 by omega] at hk
    unfold chain at hk
    rw [hz]
    have HRW := Lib.hid hr
    have hrb := (hr.skip.perm List.perm_middle)
    obtain ⟨y0, y1, y2, y3, y4, y5, y6⟩ := box7 hrb
    clear hO2 HWK hz
    cases hs : shelfOf x with
    | none =>
      rw [hs] at hof hk
      have HOF := Lib.hid hof
      have HK2 := Lib.hid hk
      clear hof hk hs hrb
      go_wp2_with (go_at_call 66; refine (HOF.out _).mono ?_; rintro e w5 ⟨⟨v5, rfl⟩, rfl⟩)
      go_ret2
      rw [← HK2.out]
      exact ⟨rfl, hr.skip.dropL.skip⟩
    | some s =>
      rw [hs] at hof hk
      simp only at hk
      have HOF := Lib.hid hof
      obtain ⟨s0, s1⟩ := ofS_ge hs
      clear hof hs
      by_cases hS : (c.S : Int) ≤ s
      · rw [if_pos (.inl hS)] at hk
        have HK2 := Lib.hid hk
        clear hk hrb
        go_wp2_with (go_at_call 66; refine (HOF.out _).mono ?_; rintro e w5 ⟨rfl, rfl⟩)
        go_ret2
        rw [← HK2.out]
        exact ⟨rfl, hr.skip.dropL.skip⟩
      · have hSn : ¬ (c.S : Int) ≤ s := hS
        have hwf : (Lit.int .i64 s).wf = true := by simp [Lit.wf, IntKind.min, IntKind.max, IntKind.signed, IntKind.bits]; omega
        have HWF := Lib.hid hwf
        have hgm := hr.get List.mem_cons_self
        clear hwf
        by_cases hin : s ∈ out
        · rw [if_pos (.inr hin)] at hk
          have HK2 := Lib.hid hk
          have hg1 := seen_yes hin
          clear hk hrb
          go_wp2_with (first | (go_at_call 66; refine (HOF.out _).mono ?_; rintro e w5 ⟨rfl, rfl⟩) | (at_lookup; refine wpList_mapAt rfl _ _ rfl rfl rfl HIM.out hgm HWF.out ?_; rw [hg1]))
          go_ret2
          rw [← HK2.out]
          exact ⟨rfl, hr.skip.dropL.skip⟩
        · rw [if_neg (by intro hh; exact hh.elim hS hin)] at hk
          have hg1 := seen_no hin
          by_cases hm1 : s = -1
          · rw [if_pos hm1] at hk
            subst hm1
            have HK2 := Lib.hid hk
            clear hk hrb
            go_wp2_with (first | (go_at_call 66; refine (HOF.out _).mono ?_; rintro e w5 ⟨rfl, rfl⟩) | (at_lookup; refine wpList_mapAt rfl _ _ rfl rfl rfl HIM.out hgm HWF.out ?_; rw [hg1]))
            go_ret2
            rw [← HK2.out]
            exact ⟨_, bs, rfl, HO2, hr.skip.drop1⟩
          · rw [if_neg hm1] at hk
            have hsb : (s == -1) = false := beq_eq_false_iff_ne.2 hm1
            obtain ⟨j, rfl⟩ : ∃ j : Nat, s = j := ⟨s.toNat, by omega⟩
            have hjS : j < c.S := by omega
            have hji : 0 ≤ (j : Int) ∧ (j : Int) < (c.S : Int) := by omega
            have HJ := Lib.hid hji
            have hN := HW.out.n
            unfold Ch.words at hN
            have hpN : 4 * c.C + 4 + 4 * j + 2 < N := by omega
            obtain ⟨p, hp⟩ : ∃ p : Nat, 4 * c.C + 4 + 4 * j + 2 = p := ⟨_, rfl⟩
            have hpi : 4 * (c.C : Int) + 4 + 4 * (j : Int) + 2 = (p : Int) := by omega
            have HPI := Lib.hid hpi
            rw [hp] at hpN
            have hp0 : (0 : Int) ≤ (p : Int) := by omega
            have hp1 : (p : Int) < (N : Int) := by omega
            obtain ⟨x', hx'⟩ : ∃ x', g[p]? = some x' := ⟨_, List.getElem?_eq_getElem (by rw [HW.out.len]; exact hpN)⟩
            have hna : nextAt c g (j : Int) = x' := by
              unfold nextAt at_
              rw [Int.toNat_natCast, hp, List.getD_eq_getElem?_getD, hx']
              rfl
            rw [hna] at hk
            have HX' : Hid (x' < 18446744073709551616) := HW.out.w64 x' (List.mem_of_getElem? hx')
            have HXP := Lib.hid hx'
            have hlt := few_lt HND.out.1 HND.out.2 hji.1 hji.2 hin
            rw [HZ.out] at hlt
            have HND2 : Hid ((out ++ [(j : Int)]).Nodup ∧ ∀ y ∈ out ++ [(j : Int)], 0 ≤ y ∧ y < c.S) := by
              refine ⟨List.nodup_append.2 ⟨HND.out.1, by simp, fun a ha b hb he => ?_⟩, fun y hy => ?_⟩
              · simp at hb
                subst hb
                subst he
                exact hin ha
              · rcases List.mem_append.1 hy with hy | hy
                · exact HND.out.2 y hy
                · simp at hy
                  subst hy
                  exact hji
            have HK2 : Hid (chain shelfOf (nextAt c g) c.S (c.S + 1 - (out ++ [(j : Int)]).length) (out ++ [(j : Int)]) x' = R) := by
              show _ = _
              rw [List.length_append, HZ.out, List.length_singleton, show c.S + 1 - (z + 1) = c.S - z by omega]
              exact hk
            have HLEN : Hid (out.length + [(j : Int)].length ≤ 60000) := by
              show _ ≤ _
              rw [HZ.out]
              simp
              omega
            have HLM : Hid (out.length < maxLen) := by
              show _ < _
              rw [HZ.out]
              unfold maxLen
              omega
            clear hk hN hp hpi hx' hna hrb
            go_wp2_with (first | (go_at_call 66; refine (HOF.out _).mono ?_; rintro e w5 ⟨rfl, rfl⟩) | (at_lookup; refine wpList_mapAt rfl _ _ rfl rfl rfl HIM.out hgm HWF.out ?_; rw [hg1]) |
              (at_mapUpdate; refine wpList_mapPut rfl _ _ _ rfl rfl rfl rfl HIM.out HRW.out HLM.out HWF.out ?_; intro es' ck' w' k1 k2; rw [seen_put] at k1; have K1 := Lib.hid k1; have H2 := Lib.hid ((k2.perm List.perm_middle.symm).alloc (.cells #[.int .i64 (j : Int)] 3)); have HSRC := Lib.hid (src_one w' (j : Int)); clear k1 k2 y0 y1 y2 y3 y4 y5 y6 hgm) |
              (at_builtin; refine wpList_app_ints rfl _ _ rfl rfl rfl HO2.out H2.out HSRC.out HLEN.out ?_; intro v' w' bs' q1 q2 q3; have Q1 := Lib.hid q1; have Q2 := Lib.hid q2; obtain ⟨y0, y1, y2, y3, y4, y5, y6⟩ := box7 q2.dropL.skip; have cx := HW.out.rd _ q2.dropL.skip.skip p x' HXP.out; clear q1 q2 q3))
            go_region_held3 (fun w' => w'.cell? ⟨b, 0, none⟩ = some (.slice (some ⟨B, o, none⟩) N k) ∧ w'.cell? ⟨b, 1, none⟩ = some (.int .i64 c.C) ∧ w'.cell? ⟨b, 2, none⟩ = some (.int .i64 c.S) ∧ w'.cell? ⟨b, 3, none⟩ = some (.int .i64 c.O) ∧ w'.cell? ⟨b, 4, none⟩ = some (.int .i64 d) ∧ w'.cell? ⟨b, 5, none⟩ = some (.int .i64 e) ∧ w'.cell? ⟨b, 6, none⟩ = some (.int .u64 c.key) ∧ w'.cell? ⟨B, o + p, none⟩ = some (.int .u64 (x' : Int))) (first | (refine ⟨?_, ?_, ?_, ?_, ?_, ?_, ?_, ?_⟩ <;> assumption) | go_keep)
              (first | (go_at_call 19; refine (Apart.next_ok HC.out.ok HJ.out Q2.out.drew).mono ?_; rintro r w6 ⟨rfl, h6⟩; rw [HPI.out]; obtain ⟨y0, y1, y2, y3, y4, y5, y6⟩ := box7 h6.dropL.skip; have cx := HW.out.rd _ h6.dropL.skip.skip p x' HXP.out))
            go_wp2_with fail
            obtain ⟨A9, c9, hv9, -, -⟩ := Q1.out.slice
            rw [List.length_append, HZ.out, List.length_singleton] at hv9
            refine ⟨⟨x', _, bs', es', ck', rfl, HX', HND2, HK2, Q1, ?_, ?_⟩, ?_⟩
            · show IM es' (out ++ [(j : Int)]).length _
              rw [List.length_append, List.length_singleton]
              exact K1.out
            · exact h6.perm List.perm_middle
            · rw [hv9]
              simp [slLen]
              omega
end
end Go.Proofs.Ytigakendeghoaaa.See

/-
  Contracts: a slab's numbers in a word (package count). No condition.
-/
namespace Go.Proofs.Ytigakendeghoaaa.See
open Go.RowKit
attribute [local go_sem ↓] Go.wp_at_zero Go.wp_at_succ
def mayB (a b : Int) (f l : Bool) : Bool := decide ((l = true ∧ 1 ≤ b ∧ b ≤ 16 ∧ 0 ≤ a ∧ a ≤ b) ∨ (a = 0 ∧ b = 0 ∧ f = false ∧ l = false))
section
variable {W w : World} {m : List (Nat × Obj)}
set_option maxHeartbeats 1000000 in
theorem may_spec (h : Own W m w) (a b : Int) (f l : Bool) : Calls Try.prog 91 #[.agg #[.int .i64 a, .int .i64 b, .bool f, .bool l]] w fun e w' => e = .returned (.bool (mayB a b f l)) ∧ Own W m w' := by
  have h0 := h.alloc (.cells #[.int .i64 a, .int .i64 b, .bool f, .bool l] 80)
  cases hm : mayB a b f l with
  | true =>
    rcases of_decide_eq_true hm with ⟨rfl, h1, h2, h3, h4⟩ | ⟨rfl, rfl, rfl, rfl⟩
    · clear hm
      go_enter Try.func91, Try.ntmps91
      go_wp2_with fail
      go_ret
      exact ⟨rfl, h0⟩
    · clear hm
      go_enter Try.func91, Try.ntmps91
      go_wp2_with fail
      go_ret
      exact ⟨rfl, h0⟩
  | false =>
    have hm := of_decide_eq_false hm
    cases l with
    | false =>
      have hn : ¬ (a = 0 ∧ b = 0 ∧ f = false) := fun hh => hm (.inr ⟨hh.1, hh.2.1, hh.2.2, rfl⟩)
      by_cases ha : a = 0
      · by_cases hb : b = 0
        · have hf : f = true := by
            cases f
            · exact absurd ⟨ha, hb, rfl⟩ hn
            · rfl
          subst ha hb hf
          clear hm hn
          go_enter Try.func91, Try.ntmps91
          go_wp2_with fail
          go_ret
          exact ⟨rfl, h0⟩
        · have hbb : (b == 0) = false := beq_eq_false_iff_ne.2 hb
          subst ha
          clear hm hn
          go_enter Try.func91, Try.ntmps91
          go_wp2_with fail
          go_ret
          exact ⟨rfl, h0⟩
      · have hab : (a == 0) = false := beq_eq_false_iff_ne.2 ha
        clear hm hn
        go_enter Try.func91, Try.ntmps91
        go_wp2_with fail
        go_ret
        exact ⟨rfl, h0⟩
    | true =>
      have hn : ¬ (1 ≤ b ∧ b ≤ 16 ∧ 0 ≤ a ∧ a ≤ b) := fun hh => hm (.inl ⟨rfl, hh⟩)
      clear hm
      rcases (show b < 1 ∨ (1 ≤ b ∧ 16 < b) ∨ (1 ≤ b ∧ b ≤ 16 ∧ a < 0) ∨ (1 ≤ b ∧ b ≤ 16 ∧ 0 ≤ a ∧ b < a) by omega) with h1 | ⟨h1, h2⟩ | ⟨h1, h2, h3⟩ | ⟨h1, h2, h3, h4⟩
      all_goals
        clear hn
        try have h5 : ¬ a ≤ b := by omega
        go_enter Try.func91, Try.ntmps91
        go_wp2_with fail
        go_ret
        exact ⟨rfl, h0⟩
theorem and_bit (x k : Nat) (hx : x < 18446744073709551616) (hk : k < 64) : bits .and .u64 (x : Int) ((2 ^ k : Nat) : Int) = ((2 ^ k * (x / 2 ^ k % 2) : Nat) : Int) := by
  have hp : 2 ^ k < 18446744073709551616 := by
    have := Nat.pow_lt_pow_right (a := 2) (by omega) hk
    exact this
  rw [u64_and_nat x (2 ^ k) hx hp]
  congr 1
  have ht : x.testBit k = decide (x / 2 ^ k % 2 = 1) := Nat.testBit_eq_decide_div_mod_eq
  apply Nat.eq_of_testBit_eq
  intro i
  rw [Nat.testBit_and, Nat.testBit_two_pow]
  rcases (show x / 2 ^ k % 2 = 0 ∨ x / 2 ^ k % 2 = 1 by omega) with h | h
  · rw [h, Nat.mul_zero, Nat.zero_testBit]
    by_cases hki : k = i
    · subst hki; rw [ht, h]; simp
    · simp [hki]
  · rw [h, Nat.mul_one, Nat.testBit_two_pow]
    by_cases hki : k = i
    · subst hki; rw [ht, h]; simp
    · simp [hki]
/-- what Counts answers -/
def countsV (w : Nat) : Value := match countsOf w with
  | some c => .tuple #[.agg #[.int .i64 c.inuse, .int .i64 c.objects, .bool c.frozen, .bool c.live], .bool true]
  | none => .tuple #[.agg #[.int .i64 0, .int .i64 0, .bool false, .bool false], .bool false]
theorem countsOf_may (x : Nat) (hx : x < 262144) : countsOf x = if mayB ((x % 256 : Nat) : Int) ((x / 256 % 256 : Nat) : Int) (decide (x / 65536 % 2 = 1)) (decide (x / 131072 % 2 = 1)) = true then some ⟨x % 256, x / 256 % 256, decide (x / 65536 % 2 = 1), decide (x / 131072 % 2 = 1)⟩ else none := by
  unfold countsOf mayB
  by_cases h0 : x = 0
  · subst h0
    decide
  · rw [if_neg h0]
    by_cases hl : x / 131072 % 2 = 1
    · rw [decide_eq_true hl]
      by_cases h1 : 131072 ≤ x ∧ x < 262144 ∧ 1 ≤ x / 256 % 256 ∧ x / 256 % 256 ≤ 16 ∧ x % 256 ≤ x / 256 % 256
      · rw [if_pos h1, if_pos (decide_eq_true (.inl ⟨rfl, by omega⟩))]
      · rw [if_neg h1, if_neg]
        intro h2
        rcases of_decide_eq_true h2 with ⟨-, h3⟩ | ⟨-, -, -, h3⟩
        · omega
        · cases h3
    · rw [decide_eq_false hl, if_neg (by omega), if_neg]
      intro h2
      rcases of_decide_eq_true h2 with ⟨h3, -⟩ | ⟨h3, h4, h5, -⟩
      · cases h3
      · have h5 := of_decide_eq_false h5
        omega
theorem countsOf_big (x : Nat) (hx : 262144 ≤ x) : countsOf x = none := by
  unfold countsOf
  rw [if_neg (by omega), if_neg (by omega)]
set_option maxRecDepth 100000 in
set_option maxHeartbeats 2000000 in
theorem counts_spec (h : Own W m w) (x : Nat) (hx : x < 18446744073709551616) : Calls Try.prog 83 #[.int .u64 x] w fun e w' => e = .returned (countsV x) ∧ Own W m w' := by
  have a1 := and255 x hx
  have a2 := and255 (x / 256) (by omega)
  have hd : (x : Int) / 256 = ((x / 256 : Nat) : Int) := by omega
  have a3 := and_bit x 16 hx (by omega)
  have a4 := and_bit x 17 hx (by omega)
  rw [show (2 : Nat) ^ 16 = 65536 from rfl] at a3
  rw [show (2 : Nat) ^ 17 = 131072 from rfl] at a4
  have hc1 := countsOf_may x
  have hc2 := countsOf_big x
  unfold countsV
  obtain ⟨A, hA⟩ : ∃ A, x % 256 = A := ⟨_, rfl⟩
  obtain ⟨Q, hQ⟩ : ∃ Q, x / 256 = Q := ⟨_, rfl⟩
  obtain ⟨B, hB⟩ : ∃ B, Q % 256 = B := ⟨_, rfl⟩
  obtain ⟨F, hF⟩ : ∃ F, x / 65536 % 2 = F := ⟨_, rfl⟩
  obtain ⟨L, hL⟩ : ∃ L, x / 131072 % 2 = L := ⟨_, rfl⟩
  rw [hA] at a1
  rw [hQ] at hd a2
  rw [hB] at a2
  rw [hF] at a3
  rw [hL] at a4
  rw [hA, hQ, hB, hF, hL] at hc1
  have A255 : A ≤ 255 := by omega
  have B255 : B ≤ 255 := by omega
  have F2 : F = 0 ∨ F = 1 := by omega
  have L2 : L = 0 ∨ L = 1 := by omega
  have b3 : (bits .and .u64 (x : Int) 65536 != 0) = decide (F = 1) := by
    have a3 : bits .and .u64 (x : Int) 65536 = ((65536 * F : Nat) : Int) := a3
    rw [a3]
    rcases F2 with rfl | rfl <;> rfl
  have b4 : (bits .and .u64 (x : Int) 131072 != 0) = decide (L = 1) := by
    have a4 : bits .and .u64 (x : Int) 131072 = ((131072 * L : Nat) : Int) := a4
    rw [a4]
    rcases L2 with rfl | rfl <;> rfl
  obtain ⟨f, hf⟩ : ∃ f, decide (F = 1) = f := ⟨_, rfl⟩
  obtain ⟨l, hl⟩ : ∃ l, decide (L = 1) = l := ⟨_, rfl⟩
  rw [hf] at b3 hc1
  rw [hl] at b4 hc1
  have h1 := h.new (.cells #[.int .i64 0, .int .i64 0, .bool false, .bool false] 80)
  have h2 := h1.new (.cells #[.int .i64 A, .int .i64 B, .bool f, .bool l] 80)
  simp only [World.size_alloc] at h2
  obtain ⟨g, hg⟩ : ∃ g, w.heap.size = g := ⟨_, rfl⟩
  rw [hg] at h1 h2
  have c1 := h1.cell List.mem_cons_self
  have f1 := h1.frozen List.mem_cons_self
  clear hA hQ hB hF hL hf hl a3 a4 F2 L2 hx
  by_cases hbig : x < 262144
  · have hc := hc1 hbig
    have hx : decide ((262144 : Int) ≤ x) = false := decide_eq_false (by omega)
    have hm := fun ws (hs : Own W ((g + 1, Obj.cells #[.int .i64 A, .int .i64 B, .bool f, .bool l] 80 (0, 0)) :: (g, Obj.cells #[.int .i64 0, .int .i64 0, .bool false, .bool false] 80 (0, 0)) :: m) ws) => may_spec hs A B f l
    cases hmay : mayB A B f l with
    | true =>
      rw [hmay] at hc hm
      simp only [if_true] at hc
      have HM := Lib.hid hm
      rw [hc]
      clear hc hbig hc1 hc2 hm hmay
      go_enter Try.func83, Try.ntmps83
      go_wp2_with fail
      refine (HM.out _ h2).mono ?_
      rintro e w3 ⟨rfl, h3⟩
      have q := h3.cell List.mem_cons_self
      have u := h3.frozen (List.mem_cons_of_mem _ List.mem_cons_self)
      have q0 := q 0
      have q1 := q 1
      have q2 := q 2
      have q3 := q 3
      have u0 := u 0
      have u1 := u 1
      have u2 := u 2
      have u3 := u 3
      simp at q0 q1 q2 q3
      have z := h3.cell (List.mem_cons_of_mem _ List.mem_cons_self)
      have z0 := z 0
      have z1 := z 1
      have z2 := z 2
      have z3 := z 3
      simp at z0 z1 z2 z3
      clear q u z b3 b4 a1 a2 hd
      go_wp2_with fail
      have h4 : Own W ([(g + 1, Obj.cells #[.int .i64 A, .int .i64 B, .bool f, .bool l] 80 (0, 0))] ++ (g, Obj.cells #[.int .i64 0, .int .i64 0, .bool false, .bool false] 80 (0, 0)) :: m) w3 := h3
      have h5 := (((h4.setIn 0 (.int .i64 A)).setIn 1 (.int .i64 B)).setIn 2 (.bool f)).setIn 3 (.bool l)
      have ec := h5.cell (List.mem_append_right _ List.mem_cons_self)
      have e0 := ec 0
      have e1 := ec 1
      have e2 := ec 2
      have e3 := ec 3
      simp at e0 e1 e2 e3
      exact bodyPost_ret (v := .tuple #[.agg #[(.int .i64 A), (.int .i64 B), (.bool f), (.bool l)], .bool true]) (by simp [results, Try.f83, go_sem, e0, e1, e2, e3]) rfl ⟨rfl, h5.drop1.dropL⟩
    | false =>
      rw [hmay] at hc hm
      simp only [Bool.false_eq_true, if_false] at hc
      have HM := Lib.hid hm
      rw [hc]
      clear hc hbig hc1 hc2 hm hmay
      go_enter Try.func83, Try.ntmps83
      go_wp2_with fail
      refine (HM.out _ h2).mono ?_
      rintro e w3 ⟨rfl, h3⟩
      have q := h3.cell List.mem_cons_self
      have u := h3.frozen (List.mem_cons_of_mem _ List.mem_cons_self)
      have q0 := q 0
      have q1 := q 1
      have q2 := q 2
      have q3 := q 3
      have u0 := u 0
      have u1 := u 1
      have u2 := u 2
      have u3 := u 3
      simp at q0 q1 q2 q3
      have z := h3.cell (List.mem_cons_of_mem _ List.mem_cons_self)
      have z0 := z 0
      have z1 := z 1
      have z2 := z 2
      have z3 := z 3
      simp at z0 z1 z2 z3
      clear q u z b3 b4 a1 a2 hd
      go_wp2_with fail
      have h4 : Own W ([(g + 1, Obj.cells #[.int .i64 A, .int .i64 B, .bool f, .bool l] 80 (0, 0))] ++ (g, Obj.cells #[.int .i64 0, .int .i64 0, .bool false, .bool false] 80 (0, 0)) :: m) w3 := h3
      have h5 := (((h4.setIn 0 (.int .i64 0)).setIn 1 (.int .i64 0)).setIn 2 (.bool false)).setIn 3 (.bool false)
      have ec := h5.cell (List.mem_append_right _ List.mem_cons_self)
      have e0 := ec 0
      have e1 := ec 1
      have e2 := ec 2
      have e3 := ec 3
      simp at e0 e1 e2 e3
      exact bodyPost_ret (v := .tuple #[.agg #[(.int .i64 0), (.int .i64 0), (.bool false), (.bool false)], .bool false]) (by simp [results, Try.f83, go_sem, e0, e1, e2, e3]) rfl ⟨rfl, h5.drop1.dropL⟩
  · have hc := hc2 (by omega)
    have hx : ¬ (x : Int) < 262144 := by omega
    rw [hc]
    clear hc hbig hc1 hc2
    go_enter Try.func83, Try.ntmps83
    go_wp2_with fail
    have ec := h2.cell (List.mem_cons_of_mem _ List.mem_cons_self)
    have e0 := ec 0
    have e1 := ec 1
    have e2 := ec 2
    have e3 := ec 3
    simp at e0 e1 e2 e3
    exact bodyPost_ret (v := .tuple #[.agg #[.int .i64 0, .int .i64 0, .bool false, .bool false], .bool false]) (by simp [results, Try.f83, go_sem, e0, e1, e2, e3]) rfl ⟨rfl, h2.skip.skip⟩
end
end Go.Proofs.Ytigakendeghoaaa.See
