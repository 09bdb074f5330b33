/-
  wainscotlaw21.ChartBlind answers true: the walk. No condition.
-/
import Derived.Test.YtigakendeghoaaaSeeK
import Derived.Test.YtigakendeghoaaaApartLaw
import Derived.Test.YtigakendeghoaaaArgs
namespace Go.Proofs.Ytigakendeghoaaa.See
open Go.RowKit
open Apart (chV chB box6 bRow bRow_get bRow_nil bRow_set castN castN_len pl pl_eq plB_len mem_pl)
open chartPlaces (Ok)
attribute [local go_sem ↓] Go.wp_at_zero Go.wp_at_succ
theorem u64_info : (Try.prog.info? 22).map (fun i => (i.zero, i.size, i.bytes)) = some (some (.int .u64 0), 1, 8) := by kernel_rfl
/-- words as a row -/
def wRow (g : List Nat) : Array Value := (g.map fun (n : Nat) => Value.int .u64 (n : Int)).toArray
theorem wRow_get {g : List Nat} {i x : Nat} (h : g[i]? = some x) : (wRow g)[i]? = some (.int .u64 (x : Int)) := by simp [wRow, h]
theorem wRow_set (g : List Nat) (i x : Nat) : (wRow g).setIfInBounds i (.int .u64 (x : Int)) = wRow (g.set i x) := by
  apply Array.ext_getElem?
  intro j
  rw [Array.getElem?_setIfInBounds]
  simp only [wRow, List.size_toArray, List.length_map, List.getElem?_toArray, List.getElem?_map, List.getElem?_set]
  by_cases hj : i = j
  · subst hj
    by_cases hi : i < g.length
    · simp [hi]
    · simp [hi]
  · simp [hj]
theorem wRow_zero (n : Nat) : Array.replicate n (Value.int .u64 0) = wRow (List.replicate n 0) := by
  apply Array.ext_getElem?
  intro j
  by_cases hj : j < n
  · simp [wRow, hj]
  · simp [wRow, hj]
theorem blind_p1 {α : Type} (x y : α) (b : List α) (i : α) (e : List α) : (x :: (y :: (b ++ i :: e))).Perm (i :: (x :: (y :: (b ++ e)))) := by
  have h1 : (b ++ i :: e).Perm (i :: (b ++ e)) := List.perm_middle
  exact ((h1.cons y).cons x).trans (((List.Perm.swap _ _ _).cons x).trans (List.Perm.swap _ _ _))
theorem blind_p3 {α : Type} (p : List α) (x y : α) (e : List α) : (p ++ (x :: (y :: e))).Perm (x :: (y :: (p ++ e))) :=
  List.perm_middle.trans (List.Perm.cons x List.perm_middle)
theorem blind_p2 {α : Type} (y : α) (b2 : List α) (x z : α) (p : List α) (k : α) (b1 e : List α) : (y :: (b2 ++ (x :: (z :: (p ++ (k :: (b1 ++ e))))))).Perm (b1 ++ (b2 ++ (y :: (x :: (z :: (p ++ (k :: e))))))) := by
  have h1 : y :: (b2 ++ (x :: (z :: (p ++ (k :: (b1 ++ e)))))) = (y :: (b2 ++ (x :: (z :: (p ++ [k]))))) ++ (b1 ++ e) := by simp
  have h2 : (y :: (b2 ++ (x :: (z :: (p ++ [k]))))) ++ e = y :: (b2 ++ (x :: (z :: (p ++ (k :: e))))) := by simp
  rw [h1]
  refine (perm_swap _ _ _).trans (List.Perm.append_left b1 ?_)
  rw [h2]
  exact List.perm_middle.symm
section
variable {W w : World} {m M : List (Nat × Obj)} {ib : Nat} {g : List Nat}
theorem rd_row : Rd W ((ib, .cells (wRow g) 22) :: m) ib 0 g := fun ws hw j x hj => by
  rw [hw.cell List.mem_cons_self, Nat.zero_add]
  exact wRow_get hj
theorem wok_row {c : Ch} {N : Nat} (hl : g.length = N) (hN : N = c.words) (hw : W64 g) (hm : N ≤ maxLen) : WOk W ((ib, .cells (wRow g) 22) :: m) ib 0 N N g c := ⟨rd_row, hl, hN, hw, Nat.le_refl _, hm⟩
/-- what See answers, as one: the code, and a core -/
def seeK (r : Option CoreP) : CoreP × Int := match r with
  | some K => (K, 0)
  | none => (⟨[], [], false, []⟩, 150)
theorem core_none : CoreO (.agg #[.slice none 0 0, .slice none 0 0, .bool false, .slice none 0 0]) ⟨[], [], false, []⟩ [] :=
  ⟨[], _, [], _, [], [], _, [], rfl, rfl, (fun s hs => by cases hs), SlO.nil _ _ _, SlO.nil _ _ _, rfl, (fun s hs => by cases hs), SlO.nil _ _ _, rfl⟩
theorem see_one {r : Option CoreP} {e : Ending} {w' : World} (h : SeePost W m r e w') : ∃ v bs, e = .returned (.tuple #[v, .int .i64 (seeK r).2]) ∧ CoreO v (seeK r).1 bs ∧ Own W (bs ++ m) w' := by
  cases r with
  | none =>
    obtain ⟨rfl, h2⟩ := h
    exact ⟨_, [], rfl, core_none, h2⟩
  | some K =>
    obtain ⟨v, bs, rfl, h1, h2⟩ := h
    exact ⟨v, bs, rfl, h1.out, h2⟩
theorem seeK_small {c : Ch} (hc : c.C ≤ 8 ∧ c.S ≤ 32 ∧ c.O ≤ 16) : SmallC (seeK (seeP c g)).1 := by
  cases h : seeP c g with
  | none => exact ⟨by simp [seeK], by simp [seeK], by simp [seeK], (fun s hs => by simp [seeK] at hs), (fun s hs => by simp [seeK] at hs)⟩
  | some K => exact see_small hc h
set_option maxRecDepth 100000 in
set_option maxHeartbeats 8000000 in
theorem blind_walk (hO : Own W m w) (a b c d0 e0 key v : Int) (ha : (Lit.int .i64 a).wf = true) (hb : (Lit.int .i64 b).wf = true) (hc : (Lit.int .i64 c).wf = true) (hd : (Lit.int .i64 d0).wf = true) (he : (Lit.int .i64 e0).wf = true) (hkey : (Lit.int .u64 key).wf = true) (hv : (Lit.int .u64 v).wf = true)
    (A : Option Addr) (len cap : Nat) (hlc : len ≤ cap) (hcap : cap ≤ maxLen) (hat : FlatAt W [some .u64] A len) :
    Calls Try.prog 6 #[.slice A len cap, chV a b c d0 e0 key, .int .u64 v] w fun r w' => r = .returned (.bool true) ∧ Own W m w' := by
  have hkey2 : 0 ≤ key ∧ key < 18446744073709551616 := by
    simp [Lit.wf, IntKind.min, IntKind.max, IntKind.signed, IntKind.bits] at hkey
    omega
  have hv2 : 0 ≤ v ∧ v < 18446744073709551616 := by
    simp [Lit.wf, IntKind.min, IntKind.max, IntKind.signed, IntKind.bits] at hv
    omega
  obtain ⟨key, rfl⟩ : ∃ k : Nat, key = k := ⟨key.toNat, by omega⟩
  obtain ⟨v, rfl⟩ : ∃ k : Nat, v = k := ⟨v.toNat, by omega⟩
  have HV : Hid (v < 18446744073709551616) := by show _ < _; omega
  have HK : Hid (key < 18446744073709551616) := by show _ < _; omega
  have HAT := Lib.hid hat
  have HCAP := Lib.hid hcap
  have h0 : Own W (chB w.heap.size a b c d0 e0 key :: m) _ := hO.new (.cells #[.int .i64 a, .int .i64 b, .int .i64 c, .int .i64 d0, .int .i64 e0, .int .u64 key] 24)
  obtain ⟨z, hz⟩ : ∃ z, w.heap.size = z := ⟨_, rfl⟩
  rw [hz] at h0
  obtain ⟨y0, y1, y2, y3, y4, y5⟩ := box6 h0
  have HA := Lib.hid ha
  have HB := Lib.hid hb
  have HC := Lib.hid hc
  have HD := Lib.hid hd
  have HE := Lib.hid he
  clear ha hb hc hd he hkey hv hkey2 hv2 hat hcap
  unfold chV
  go_enter Try.func6, Try.ntmps6
  go_wp2_with fail
  refine (Apart.made_ok HA.out HB.out HC.out HD.out HE.out h0).mono ?_
  rintro r w1 ⟨⟨C, S, O, d, e, hOk, rfl⟩, h1⟩
  obtain ⟨C, rfl⟩ : ∃ n : Nat, C = n := ⟨C.toNat, by unfold Ok at hOk; omega⟩
  obtain ⟨S, rfl⟩ : ∃ n : Nat, S = n := ⟨S.toNat, by unfold Ok at hOk; omega⟩
  obtain ⟨O, rfl⟩ : ∃ n : Nat, O = n := ⟨O.toNat, by unfold Ok at hOk; omega⟩
  clear y0 y1 y2 y3 y4 y5
  obtain ⟨y0, y1, y2, y3, y4, y5⟩ := box6 h1
  have f0 := h1.frozen List.mem_cons_self 0
  have f1 := h1.frozen List.mem_cons_self 1
  have f2 := h1.frozen List.mem_cons_self 2
  have f3 := h1.frozen List.mem_cons_self 3
  have f4 := h1.frozen List.mem_cons_self 4
  have f5 := h1.frozen List.mem_cons_self 5
  have h2 : Own W (chB z C S O d e key :: m) _ := (((((h1.set 0 (.int .i64 C)).set 1 (.int .i64 S)).set 2 (.int .i64 O)).set 3 (.int .i64 d)).set 4 (.int .i64 e)).set 5 (.int .u64 key)
  have hcc : COk ⟨C, S, O, key⟩ d e := ⟨hOk, HK.out⟩
  have HCC := Lib.hid hcc
  have HOK := Lib.hid hOk
  obtain ⟨c1, c2, c3, c4, c5, c6⟩ : 1 ≤ C ∧ C ≤ 8 ∧ 1 ≤ S ∧ S ≤ 32 ∧ 1 ≤ O ∧ O ≤ 16 := by unfold Ok at hOk; omega
  have hmul : S * O ≤ 32 * 16 := Nat.mul_le_mul c4 c6
  obtain ⟨N, hN⟩ : ∃ N : Nat, 4 * C + 4 + 4 * S + S * O = N := ⟨_, rfl⟩
  have hNi : 4 * (C : Int) + 4 + 4 * (S : Int) + (S : Int) * (O : Int) = (N : Int) := by rw [← hN]; push_cast; rfl
  have hN1 : 1 ≤ N := by omega
  have hN2 : N ≤ 4096 := by omega
  have HN : Hid (N = (⟨C, S, O, key⟩ : Ch).words) := hN.symm
  have HNI := Lib.hid hNi
  clear hOk hmul hN hNi hcc
  go_wp2_with fail
  obtain ⟨wa, hwa⟩ : ∃ wa, (((((w1.setCell ⟨z, 0, none⟩ (.int .i64 C)).setCell ⟨z, 1, none⟩ (.int .i64 S)).setCell ⟨z, 2, none⟩ (.int .i64 O)).setCell ⟨z, 3, none⟩ (.int .i64 d)).setCell ⟨z, 4, none⟩ (.int .i64 e)).setCell ⟨z, 5, none⟩ (.int .u64 key) = wa := ⟨_, rfl⟩
  rw [hwa] at h2 ⊢
  clear hwa y0 y1 y2 y3 y4 y5 f0 f1 f2 f3 f4 f5 h1 h0 hz
  refine (Apart.words_ok HOK.out h2).mono ?_
  rintro r w3 ⟨rfl, h3⟩
  rw [HNI.out]
  obtain ⟨i, hi, hzz, hs, hby⟩ := info_get u64_info
  have hmk := fun W => run_make_rowN (P := Try.prog) 35 22 i _ Try.underlying35 hi hzz .i64 .i64 N N (Nat.le_refl _) (by rw [hby]; omega) (by omega) W
  rw [hs, Nat.mul_one, madeCells_const _ (.int .u64 0) _ (by simp [Value.cells]) (by intro j hj; obtain rfl : j = 0 := (by simp [Value.cells] at hj; omega); rfl), wRow_zero] at hmk
  clear hi hzz hs hby
  have h4 : Own W ((w3.heap.size, .cells (wRow (List.replicate N 0)) 22) :: (chB z C S O d e key :: m)) _ := h3.new (.cells (wRow (List.replicate N 0)) 22)
  go_wp2_with fail
  obtain ⟨ib, hib⟩ : ∃ ib, w3.heap.size = ib := ⟨_, rfl⟩
  obtain ⟨wb, hwb⟩ : ∃ wb, w3.alloc (.cells (wRow (List.replicate N 0)) 22) = wb := ⟨_, rfl⟩
  rw [hib, hwb] at h4
  rw [hib, hwb]
  have H4 := Lib.hid h4
  clear hmk hib hwb h2 h3 h4
  go_loopw [9] (fun iv wr => ∃ (i : Nat) (g : List Nat), iv = .int .i64 i ∧ i ≤ N ∧ i ≤ len ∧ Hid (g.length = N) ∧ Hid (W64 g) ∧ Own W ((ib, .cells (wRow g) 22) :: (chB z C S O d e key :: m)) wr) (fun iv _ => N - (intOf iv).toNat)
  case atStart => exact ⟨0, _, rfl, by omega, by omega, List.length_replicate, (fun x hx => by rw [List.eq_of_mem_replicate hx]; omega), H4.out⟩
  case round =>
    clear H4
    obtain ⟨i, g, rfl, hi, hil, HLEN, HW, hr⟩ := hrel
    have hcap := HCAP.out
    unfold maxLen at hcap
    by_cases hlt : i < N ∧ i < len
    · obtain ⟨hlt, hll⟩ := hlt
      have hlti : (i : Int) < N := by omega
      have hlli : (i : Int) < len := by omega
      have hi0 : (0 : Int) ≤ i := by omega
      obtain ⟨B, o, rfl, hBW, hcs⟩ := HAT.out (by omega)
      obtain ⟨_, d1, x0, rfl, xf0⟩ := hcs i hll 0 _ rfl
      simp only [List.length_cons, List.length_nil, Nat.reduceAdd, Nat.add_zero, Nat.zero_add, Nat.mul_one] at d1
      have d1' := (hr.old (a := ⟨B, o + i, none⟩) hBW).trans d1
      have hx2 : 0 ≤ x0 ∧ x0 < 18446744073709551616 := by
        simp [Lit.wf, IntKind.min, IntKind.max, IntKind.signed, IntKind.bits] at xf0
        omega
      obtain ⟨x, rfl⟩ : ∃ x : Nat, x0 = x := ⟨x0.toNat, by omega⟩
      have hg := hr.cell List.mem_cons_self i
      obtain ⟨x1, hx1⟩ : ∃ x1, g[i]? = some x1 := ⟨_, List.getElem?_eq_getElem (by rw [HLEN.out]; exact hlt)⟩
      rw [wRow_get hx1] at hg
      have hf := hr.frozen List.mem_cons_self i
      have h5 := hr.set i (.int .u64 (x : Int))
      rw [wRow_set] at h5
      have HW2 : Hid (W64 (g.set i x)) := fun y hy => by
        rcases List.mem_or_eq_of_mem_set hy with hy | rfl
        · exact HW.out y hy
        · omega
      clear hcs d1 xf0 hx2 hx1 hcap
      go_wp2_with fail
      exact ⟨⟨i + 1, g.set i x, by go_num, by omega, by omega, (by show _ = _; rw [List.length_set]; exact HLEN.out), HW2, h5⟩, by simp [intOf]; omega⟩
    · have hnl : (N : Int) ≤ i ∨ ((i : Int) < N ∧ (len : Int) ≤ i) := by omega
      have hsee := see_spec hr HCC.out (wok_row (W := W) (m := chB z C S O d e key :: m) (ib := ib) HLEN.out HN.out HW.out (by unfold maxLen; omega))
      have HSEE := Lib.hid hsee
      obtain ⟨y0, y1, y2, y3, y4, y5⟩ := box6 hr.skip
      clear hlt hsee hr
      rcases hnl with hnl | ⟨hnl2, hnl⟩
      all_goals
        go_wp2_with fail
        refine HSEE.out.mono ?_
        rintro r w4 hpost
        obtain ⟨v1, bs1, rfl, K1, h5⟩ := see_one hpost
        obtain ⟨E1, hE1⟩ : ∃ E1, (seeK (seeP (⟨C, S, O, key⟩ : Ch) g)).2 = E1 := ⟨_, rfl⟩
        obtain ⟨A0, A1, A2, k0, k1, k2, Ls, Ll, rfl, P1⟩ := core_parts K1
        have HK1 := Lib.hid K1
        obtain ⟨n0, hn0⟩ : ∃ n, (seeK (seeP (⟨C, S, O, key⟩ : Ch) g)).1.slots.length = n := ⟨_, rfl⟩
        obtain ⟨n1, hn1⟩ : ∃ n, (seeK (seeP (⟨C, S, O, key⟩ : Ch) g)).1.shelf.length = n := ⟨_, rfl⟩
        obtain ⟨n2, hn2⟩ : ∃ n, (seeK (seeP (⟨C, S, O, key⟩ : Ch) g)).1.slabs.length = n := ⟨_, rfl⟩
        obtain ⟨lk, hlk⟩ : ∃ n, (seeK (seeP (⟨C, S, O, key⟩ : Ch) g)).1.locked = n := ⟨_, rfl⟩
        have HE1 := Lib.hid hE1
        have HN0 := Lib.hid hn0
        have HN1 := Lib.hid hn1
        have HN2 := Lib.hid hn2
        have HLK := Lib.hid hlk
        rw [hE1, hn0, hn1, hn2, hlk]
        rw [hn0, hn1, hn2, hlk] at K1
        have HK := Lib.hid K1
        have h6 := h5.new (.cells #[.slice A0 n0 k0, .slice A1 n1 k1, .bool lk, .slice A2 n2 k2] 40)
        obtain ⟨kb, hkb⟩ : ∃ kb, w4.heap.size = kb := ⟨_, rfl⟩
        rw [hkb] at h6
        obtain ⟨i2, hi2, hzz, hs2, hby⟩ := info_get Apart.bool_info
        have hmk := fun W => run_make_rowN (P := Try.prog) 47 4 i2 _ Try.underlying47 hi2 hzz .i64 .i64 N N (Nat.le_refl _) (by rw [hby]; omega) (by omega) W
        rw [hs2, Nat.mul_one, madeCells_const _ (.bool false) _ (by simp [Value.cells]) (by intro j hj; obtain rfl : j = 0 := (by simp [Value.cells] at hj; omega); rfl), bRow_nil] at hmk
        have h7 := h6.new (.cells (bRow N []) 4)
        rw [World.size_alloc, hkb] at h7
        have h8 : Own W ((ib, .cells (wRow g) 22) :: ((kb + 1, .cells (bRow N []) 4) :: ((kb, .cells #[.slice A0 n0 k0, .slice A1 n1 k1, .bool lk, .slice A2 n2 k2] 40) :: (bs1 ++ (chB z C S O d e key :: m))))) _ := h7.perm (blind_p1 _ _ _ _ _)
        clear hi2 hzz hs2 hby y0 y1 y2 y3 y4 y5 hpost hE1 hn0 hn1 hn2 hlk P1
        obtain ⟨y0, y1, y2, y3, y4, y5⟩ := box6 (h8.skip.skip.skip.dropL)
        go_wp2_with fail
        have H8 := Lib.hid h8
        clear y0 y1 y2 y3 y4 y5 h5 h6 h7 h8 hkb hmk hcap
        refine (Apart.places_ok HOK.out H8.out).mono ?_
        rintro r w5 ⟨v6, bsP, rfl, o6, h9⟩
        have hlen : 0 < (castN (pl C S O)).length := by rw [castN_len, pl_eq, plB_len]; omega
        obtain ⟨g6, cap6, cur6, rfl, -, -⟩ := o6.form hlen
        have O6 := Lib.hid o6
        have h10 : Own W ((ib, .cells (wRow g) 22) :: ((kb + 1, .cells (bRow N []) 4) :: (bsP ++ ((kb, .cells #[.slice A0 n0 k0, .slice A1 n1 k1, .bool lk, .slice A2 n2 k2] 40) :: (bs1 ++ (chB z C S O d e key :: m)))))) _ := h9.perm (blind_p3 _ _ _ _)
        obtain ⟨Z, hZ⟩ : ∃ Z, (castN (pl C S O)).length = Z := ⟨_, rfl⟩
        have HZ := Lib.hid hZ
        rw [hZ]
        have hZ7 : Z ≤ 700 := by
          have h1 := plB_len C S O S
          have h2 : S * (3 + O) ≤ 32 * 19 := Nat.mul_le_mul c4 (by omega)
          rw [← hZ, castN_len, pl_eq]
          omega
        have H10 := Lib.hid h10
        clear hZ hlen o6 h9 h10
        go_wp2_with fail
        obtain ⟨w0, hw0⟩ : ∃ w0 : World, w0 = wr := ⟨_, rfl⟩
        subst hw0
        go_loopw [14] (fun iv wr => ∃ j : Nat, j ≤ Z ∧ iv = .int .i64 j ∧ Own W ((ib, .cells (wRow g) 22) :: ((kb + 1, .cells (bRow N ((pl C S O).take j)) 4) :: (bsP ++ ((kb, .cells #[.slice A0 n0 k0, .slice A1 n1 k1, .bool lk, .slice A2 n2 k2] 40) :: (bs1 ++ (chB z C S O d e key :: m)))))) wr) (fun iv _ => Z - (intOf iv).toNat)
        case atStart => exact ⟨0, by omega, rfl, by simpa using H10.out⟩
        case round =>
          clear H10 H8
          obtain ⟨j, hj, rfl, hr⟩ := hrel
          by_cases hlt : j < Z
          · have hlti : (j : Int) < Z := by omega
            obtain ⟨x, hx⟩ : ∃ x, (pl C S O)[j]? = some x := ⟨_, List.getElem?_eq_getElem (by have := HZ.out; rw [castN_len] at this; omega)⟩
            have hxi : (castN (pl C S O))[j]? = some (x : Int) := by simp [castN, hx]
            have hxN : x < N := by rw [HN.out]; exact mem_pl (List.mem_of_getElem? hx)
            have cx := SlO.cell O6.out hr.skip.skip rfl (ints_get hxi)
            have cb := hr.skip.cell List.mem_cons_self x
            rw [bRow_get _ hxN] at cb
            have fb := hr.skip.frozen List.mem_cons_self x
            have h7 := (hr.perm (List.Perm.swap _ _ _)).set x (.bool true)
            rw [bRow_set _ hxN, ← Apart.take_succ_get hx] at h7
            have h7 := h7.perm (List.Perm.swap _ _ _)
            have hxi0 : (0 : Int) ≤ (x : Int) := by omega
            have hxi1 : (x : Int) < N := by omega
            clear hxi hx
            go_wp2_with fail
            exact ⟨⟨j + 1, by omega, by go_num, h7⟩, by simp [intOf]; omega⟩
          · have hlti : ¬ (j : Int) < Z := by omega
            have hall : (pl C S O).take j = pl C S O := List.take_of_length_le (by have := HZ.out; rw [castN_len] at this; omega)
            rw [hall] at hr
            have HR := Lib.hid hr
            clear hall hr
            go_wp2_with fail
            obtain ⟨w6, hw6⟩ : ∃ w6 : World, w6 = wr := ⟨_, rfl⟩
            subst hw6
            go_loopw [15] (fun iv wr => ∃ (i : Nat) (g' : List Nat), iv = .int .i64 i ∧ i ≤ N ∧ Hid (g'.length = N) ∧ Hid (W64 g') ∧ Hid (∀ x ∈ pl C S O, at_ g' x = at_ g x) ∧ Own W ((ib, .cells (wRow g') 22) :: ((kb + 1, .cells (bRow N (pl C S O)) 4) :: (bsP ++ ((kb, .cells #[.slice A0 n0 k0, .slice A1 n1 k1, .bool lk, .slice A2 n2 k2] 40) :: (bs1 ++ (chB z C S O d e key :: m)))))) wr) (fun iv _ => N - (intOf iv).toNat)
            case atStart => exact ⟨0, g, rfl, by omega, HLEN, HW, (fun x _ => rfl), HR.out⟩
            case round =>
              clear HR
              obtain ⟨i, g', rfl, hi3, HLEN3, HW3, HEQ, hr⟩ := hrel
              by_cases hlt3 : i < N
              · have hlti3 : (i : Int) < N := by omega
                have hi0 : (0 : Int) ≤ i := by omega
                have cb := hr.skip.cell List.mem_cons_self i
                rw [bRow_get _ hlt3] at cb
                by_cases hin : i ∈ pl C S O
                · rw [decide_eq_true hin] at cb
                  go_wp2_with fail
                  exact ⟨⟨i + 1, g', by go_num, by omega, HLEN3, HW3, HEQ, hr⟩, by simp [intOf]; omega⟩
                · rw [decide_eq_false hin] at cb
                  have hg := hr.cell List.mem_cons_self i
                  obtain ⟨x1, hx1⟩ : ∃ x1, g'[i]? = some x1 := ⟨_, List.getElem?_eq_getElem (by rw [HLEN3.out]; exact hlt3)⟩
                  rw [wRow_get hx1] at hg
                  have hf := hr.frozen List.mem_cons_self i
                  have h5 := hr.set i (.int .u64 (v : Int))
                  rw [wRow_set] at h5
                  have HW4 : Hid (W64 (g'.set i v)) := fun y hy => by
                    rcases List.mem_or_eq_of_mem_set hy with hy | rfl
                    · exact HW3.out y hy
                    · exact HV.out
                  have HEQ2 : Hid (∀ x ∈ pl C S O, at_ (g'.set i v) x = at_ g x) := fun x hx => by
                    rw [← HEQ.out x hx]
                    unfold at_
                    rw [List.getD_eq_getElem?_getD, List.getD_eq_getElem?_getD, List.getElem?_set_ne (fun he : i = x => hin (by rw [he]; exact hx))]
                  clear hx1
                  go_wp2_with fail
                  exact ⟨⟨i + 1, g'.set i v, by go_num, by omega, (by show _ = _; rw [List.length_set]; exact HLEN3.out), HW4, HEQ2, h5⟩, by simp [intOf]; omega⟩
              · have hlti3 : ¬ (i : Int) < N := by omega
                have hsee := see_spec hr HCC.out (wok_row (W := W) (m := (kb + 1, .cells (bRow N (pl C S O)) 4) :: (bsP ++ ((kb, .cells #[.slice A0 n0 k0, .slice A1 n1 k1, .bool lk, .slice A2 n2 k2] 40) :: (bs1 ++ (chB z C S O d e key :: m))))) (ib := ib) HLEN3.out HN.out HW3.out (by unfold maxLen; omega))
                rw [see_congr (c := ⟨C, S, O, key⟩) (HLEN3.out.trans HN.out) (HLEN.out.trans HN.out) HEQ.out] at hsee
                have HSEE2 := Lib.hid hsee
                obtain ⟨y0, y1, y2, y3, y4, y5⟩ := box6 hr.skip.skip.dropL.skip.dropL
                clear hsee hr
                go_wp2_with fail
                refine HSEE2.out.mono ?_
                rintro r w7 hpost
                obtain ⟨v2, bs2, rfl, K2, h11⟩ := see_one hpost
                have HK2 := Lib.hid K2
                obtain ⟨D0, D1, D2, l0, l1, l2, Ls2, Ll2, rfl, P2⟩ := core_parts K2
                rw [HE1.out, HN0.out, HN1.out, HN2.out, HLK.out]
                rw [HN0.out, HN1.out, HN2.out, HLK.out] at K2
                have HKK2 := Lib.hid K2
                have h12 := h11.new (.cells #[.slice D0 n0 l0, .slice D1 n1 l1, .bool lk, .slice D2 n2 l2] 40)
                obtain ⟨nk, hnk⟩ : ∃ nk, w7.heap.size = nk := ⟨_, rfl⟩
                rw [hnk] at h12
                have hkc := h12.skip.dropL.skip.skip.dropL.cell List.mem_cons_self
                have q0 := hkc 0
                have q1 := hkc 1
                have q2 := hkc 2
                have q3 := hkc 3
                simp at q0 q1 q2 q3
                have H13 := Lib.hid (h12.perm (blind_p2 _ _ _ _ _ _ _ _))
                clear hpost P2 K2 h11 h12 hkc y0 y1 y2 y3 y4 y5 hnk
                go_wp2_with fail
                refine (same_spec H13.out HK.out HKK2.out (seeK_small ⟨c2, c4, c6⟩)).mono ?_
                rintro r w8 ⟨rfl, h14⟩
                go_wp2_with fail
                refine (Apart.works_in (h14.dropL.dropL.skip.skip.skip.dropL.skip.skip)).mono ?_
                rintro r w9 ⟨rfl, h15⟩
                go_wp2_with fail
                go_ret
                exact ⟨rfl, h15⟩
end
end Go.Proofs.Ytigakendeghoaaa.See
