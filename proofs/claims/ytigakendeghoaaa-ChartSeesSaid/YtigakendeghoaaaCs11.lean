/-
  Texts of this claim, joined. No condition.
-/
import Derived.Test.YtigakendeghoaaaCs10
import Derived.Test.YtigakendeghoaaaCs1
import Derived.SizedLaws
/-
  wainscotlaw21.ChartBlind answers true: the walk. No condition.
-/
namespace Go.Proofs.Ytigakendeghoaaa.See
open Go.RowKit
open Apart (chV chB box6 bRow bRow_get bRow_nil bRow_set castN castN_len pl pl_eq plB_len mem_pl)
open chartPlaces (Ok)
attribute [local go_sem ↓] Go.wp_at_zero Go.wp_at_succ
theorem u64_info : (Try.prog.info? 22).map (fun i => (i.zero, i.size, i.bytes)) = some (some (.int .u64 0), 1, 8) := by kernel_rfl
/-- words as a row -/
def wRow (g : List Nat) : Array Value := (g.map fun (n : Nat) => Value.int .u64 (n : Int)).toArray
theorem wRow_get {g : List Nat} {i x : Nat} (h : g[i]? = some x) : (wRow g)[i]? = some (.int .u64 (x : Int)) := by simp [wRow, h]
theorem wRow_set (g : List Nat) (i x : Nat) : (wRow g).setIfInBounds i (.int .u64 (x : Int)) = wRow (g.set i x) := by
  apply Array.ext_getElem?
  intro j
  rw [Array.getElem?_setIfInBounds]
  simp only [wRow, List.size_toArray, List.length_map, List.getElem?_toArray, List.getElem?_map, List.getElem?_set]
  by_cases hj : i = j
  · subst hj
    by_cases hi : i < g.length
    · simp [hi]
    · simp [hi]
  · simp [hj]
theorem wRow_zero (n : Nat) : Array.replicate n (Value.int .u64 0) = wRow (List.replicate n 0) := by
  apply Array.ext_getElem?
  intro j
  by_cases hj : j < n
  · simp [wRow, hj]
  · simp [wRow, hj]
theorem blind_p1 {α : Type} (x y : α) (b : List α) (i : α) (e : List α) : (x :: (y :: (b ++ i :: e))).Perm (i :: (x :: (y :: (b ++ e)))) := by
  have h1 : (b ++ i :: e).Perm (i :: (b ++ e)) := List.perm_middle
  exact ((h1.cons y).cons x).trans (((List.Perm.swap _ _ _).cons x).trans (List.Perm.swap _ _ _))
theorem blind_p3 {α : Type} (p : List α) (x y : α) (e : List α) : (p ++ (x :: (y :: e))).Perm (x :: (y :: (p ++ e))) :=
  List.perm_middle.trans (List.Perm.cons x List.perm_middle)
theorem blind_p2 {α : Type} (y : α) (b2 : List α) (x z : α) (p : List α) (k : α) (b1 e : List α) : (y :: (b2 ++ (x :: (z :: (p ++ (k :: (b1 ++ e))))))).Perm (b1 ++ (b2 ++ (y :: (x :: (z :: (p ++ (k :: e))))))) := by
  have h1 : y :: (b2 ++ (x :: (z :: (p ++ (k :: (b1 ++ e)))))) = (y :: (b2 ++ (x :: (z :: (p ++ [k]))))) ++ (b1 ++ e) := by simp
  have h2 : (y :: (b2 ++ (x :: (z :: (p ++ [k]))))) ++ e = y :: (b2 ++ (x :: (z :: (p ++ (k :: e))))) := by simp
  rw [h1]
  refine (perm_swap _ _ _).trans (List.Perm.append_left b1 ?_)
  rw [h2]
  exact List.perm_middle.symm
section
variable {W w : World} {m M : List (Nat × Obj)} {ib : Nat} {g : List Nat}
theorem rd_row : Rd W ((ib, .cells (wRow g) 22) :: m) ib 0 g := fun ws hw j x hj => by
  rw [hw.cell List.mem_cons_self, Nat.zero_add]
  exact wRow_get hj
theorem wok_row {c : Ch} {N : Nat} (hl : g.length = N) (hN : N = c.words) (hw : W64 g) (hm : N ≤ maxLen) : WOk W ((ib, .cells (wRow g) 22) :: m) ib 0 N N g c := ⟨rd_row, hl, hN, hw, Nat.le_refl _, hm⟩
/-- what See answers, as one: the code, and a core -/
def seeK (r : Option CoreP) : CoreP × Int := match r with
  | some K => (K, 0)
  | none => (⟨[], [], false, []⟩, 150)
theorem core_none : CoreO (.agg #[.slice none 0 0, .slice none 0 0, .bool false, .slice none 0 0]) ⟨[], [], false, []⟩ [] :=
  ⟨[], _, [], _, [], [], _, [], rfl, rfl, (fun s hs => by cases hs), SlO.nil _ _ _, SlO.nil _ _ _, rfl, (fun s hs => by cases hs), SlO.nil _ _ _, rfl⟩
theorem see_one {r : Option CoreP} {e : Ending} {w' : World} (h : SeePost W m r e w') : ∃ v bs, e = .returned (.tuple #[v, .int .i64 (seeK r).2]) ∧ CoreO v (seeK r).1 bs ∧ Own W (bs ++ m) w' := by
  cases r with
  | none =>
    obtain ⟨rfl, h2⟩ := h
    exact ⟨_, [], rfl, core_none, h2⟩
  | some K =>
    obtain ⟨v, bs, rfl, h1, h2⟩ := h
    exact ⟨v, bs, rfl, h1.out, h2⟩
theorem seeK_small {c : Ch} (hc : c.C ≤ 8 ∧ c.S ≤ 32 ∧ c.O ≤ 16) : SmallC (seeK (seeP c g)).1 := by
  cases h : seeP c g with
  | none => exact ⟨by simp [seeK], by simp [seeK], by simp [seeK], (fun s hs => by simp [seeK] at hs), (fun s hs => by simp [seeK] at hs)⟩
  | some K => exact see_small hc h
set_option maxRecDepth 100000 in
set_option maxHeartbeats 8000000 in
theorem blind_walk (hO : Own W m w) (a b c d0 e0 key v : Int) (ha : (Lit.int .i64 a).wf = true) (hb : (Lit.int .i64 b).wf = true) (hc : (Lit.int .i64 c).wf = true) (hd : (Lit.int .i64 d0).wf = true) (he : (Lit.int .i64 e0).wf = true) (hkey : (Lit.int .u64 key).wf = true) (hv : (Lit.int .u64 v).wf = true)
    (A : Option Addr) (len cap : Nat) (hlc : len ≤ cap) (hcap : cap ≤ maxLen) (hat : FlatAt W [some .u64] A len) :
    Calls Try.prog 6 #[.slice A len cap, chV a b c d0 e0 key, .int .u64 v] w fun r w' => r = .returned (.bool true) ∧ Own W m w' := by
  have hkey2 : 0 ≤ key ∧ key < 18446744073709551616 := by
    simp [Lit.wf, IntKind.min, IntKind.max, IntKind.signed, IntKind.bits] at hkey
    omega
  have hv2 : 0 ≤ v ∧ v < 18446744073709551616 := by
    simp [Lit.wf, IntKind.min, IntKind.max, IntKind.signed, IntKind.bits] at hv
    omega
  obtain ⟨key, rfl⟩ : ∃ k : Nat, key = k := ⟨key.toNat, by omega⟩
  obtain ⟨v, rfl⟩ : ∃ k : Nat, v = k := ⟨v.toNat, by omega⟩
  have HV : Hid (v < 18446744073709551616) := by show _ < _; omega
  have HK : Hid (key < 18446744073709551616) := by show _ < _; omega
  have HAT := Lib.hid hat
  have HCAP := Lib.hid hcap
  have h0 : Own W (chB w.heap.size a b c d0 e0 key :: m) _ := hO.new (.cells #[.int .i64 a, .int .i64 b, .int .i64 c, .int .i64 d0, .int .i64 e0, .int .u64 key] 24)
  obtain ⟨z, hz⟩ : ∃ z, w.heap.size = z := ⟨_, rfl⟩
  rw [hz] at h0
  obtain ⟨y0, y1, y2, y3, y4, y5⟩ := box6 h0
  have HA := Lib.hid ha
  have HB := Lib.hid hb
  have HC := Lib.hid hc
  have HD := Lib.hid hd
  have HE := Lib.hid he
  clear ha hb hc hd he hkey hv hkey2 hv2 hat hcap
  unfold chV
  go_enter Try.func6, Try.ntmps6
  go_wp2_with fail
  refine (Apart.made_ok HA.out HB.out HC.out HD.out HE.out h0).mono ?_
  rintro r w1 ⟨⟨C, S, O, d, e, hOk, rfl⟩, h1⟩
  obtain ⟨C, rfl⟩ : ∃ n : Nat, C = n := ⟨C.toNat, by unfold Ok at hOk; omega⟩
  obtain ⟨S, rfl⟩ : ∃ n : Nat, S = n := ⟨S.toNat, by unfold Ok at hOk; omega⟩
  obtain ⟨O, rfl⟩ : ∃ n : Nat, O = n := ⟨O.toNat, by unfold Ok at hOk; omega⟩
  clear y0 y1 y2 y3 y4 y5
  obtain ⟨y0, y1, y2, y3, y4, y5⟩ := box6 h1
  have f0 := h1.frozen List.mem_cons_self 0
  have f1 := h1.frozen List.mem_cons_self 1
  have f2 := h1.frozen List.mem_cons_self 2
  have f3 := h1.frozen List.mem_cons_self 3
  have f4 := h1.frozen List.mem_cons_self 4
  have f5 := h1.frozen List.mem_cons_self 5
  have h2 : Own W (chB z C S O d e key :: m) _ := (((((h1.set 0 (.int .i64 C)).set 1 (.int .i64 S)).set 2 (.int .i64 O)).set 3 (.int .i64 d)).set 4 (.int .i64 e)).set 5 (.int .u64 key)
  have hcc : COk ⟨C, S, O, key⟩ d e := ⟨hOk, HK.out⟩
  have HCC := Lib.hid hcc
  have HOK := Lib.hid hOk
  obtain ⟨c1, c2, c3, c4, c5, c6⟩ : 1 ≤ C ∧ C ≤ 8 ∧ 1 ≤ S ∧ S ≤ 32 ∧ 1 ≤ O ∧ O ≤ 16 := by unfold Ok at hOk; omega
  have hmul : S * O ≤ 32 * 16 := Nat.mul_le_mul c4 c6
  obtain ⟨N, hN⟩ : ∃ N : Nat, 4 * C + 4 + 4 * S + S * O = N := ⟨_, rfl⟩
  have hNi : 4 * (C : Int) + 4 + 4 * (S : Int) + (S : Int) * (O : Int) = (N : Int) := by rw [← hN]; push_cast; rfl
  have hN1 : 1 ≤ N := by omega
  have hN2 : N ≤ 4096 := by omega
  have HN : Hid (N = (⟨C, S, O, key⟩ : Ch).words) := hN.symm
  have HNI := Lib.hid hNi
  clear hOk hmul hN hNi hcc
  go_wp2_with fail
  obtain ⟨wa, hwa⟩ : ∃ wa, (((((w1.setCell ⟨z, 0, none⟩ (.int .i64 C)).setCell ⟨z, 1, none⟩ (.int .i64 S)).setCell ⟨z, 2, none⟩ (.int .i64 O)).setCell ⟨z, 3, none⟩ (.int .i64 d)).setCell ⟨z, 4, none⟩ (.int .i64 e)).setCell ⟨z, 5, none⟩ (.int .u64 key) = wa := ⟨_, rfl⟩
  rw [hwa] at h2 ⊢
  clear hwa y0 y1 y2 y3 y4 y5 f0 f1 f2 f3 f4 f5 h1 h0 hz
  refine (Apart.words_ok HOK.out h2).mono ?_
  rintro r w3 ⟨rfl, h3⟩
  rw [HNI.out]
  obtain ⟨i, hi, hzz, hs, hby⟩ := info_get u64_info
  have hmk := fun W => run_make_rowN (P := Try.prog) 35 22 i _ Try.underlying35 hi hzz .i64 .i64 N N (Nat.le_refl _) (by rw [hby]; omega) (by omega) W
  rw [hs, Nat.mul_one, madeCells_const _ (.int .u64 0) _ (by simp [Value.cells]) (by intro j hj; obtain rfl : j = 0 := (by simp [Value.cells] at hj; omega); rfl), wRow_zero] at hmk
  clear hi hzz hs hby
  have h4 : Own W ((w3.heap.size, .cells (wRow (List.replicate N 0)) 22) :: (chB z C S O d e key :: m)) _ := h3.new (.cells (wRow (List.replicate N 0)) 22)
  go_wp2_with fail
  obtain ⟨ib, hib⟩ : ∃ ib, w3.heap.size = ib := ⟨_, rfl⟩
  obtain ⟨wb, hwb⟩ : ∃ wb, w3.alloc (.cells (wRow (List.replicate N 0)) 22) = wb := ⟨_, rfl⟩
  rw [hib, hwb] at h4
  rw [hib, hwb]
  have H4 := Lib.hid h4
  clear hmk hib hwb h2 h3 h4
  go_loopw [9] (fun iv wr => ∃ (i : Nat) (g : List Nat), iv = .int .i64 i ∧ i ≤ N ∧ i ≤ len ∧ Hid (g.length = N) ∧ Hid (W64 g) ∧ Own W ((ib, .cells (wRow g) 22) :: (chB z C S O d e key :: m)) wr) (fun iv _ => N - (intOf iv).toNat)
  case atStart => exact ⟨0, _, rfl, by omega, by omega, List.length_replicate, (fun x hx => by rw [List.eq_of_mem_replicate hx]; omega), H4.out⟩
  case round =>
    clear H4
    obtain ⟨i, g, rfl, hi, hil, HLEN, HW, hr⟩ := hrel
    have hcap := HCAP.out
    unfold maxLen at hcap
    by_cases hlt : i < N ∧ i < len
    · obtain ⟨hlt, hll⟩ := hlt
      have hlti : (i : Int) < N := by omega
      have hlli : (i : Int) < len := by omega
      have hi0 : (0 : Int) ≤ i := by omega
      obtain ⟨B, o, rfl, hBW, hcs⟩ := HAT.out (by omega)
      obtain ⟨_, d1, x0, rfl, xf0⟩ := hcs i hll 0 _ rfl
      simp only [List.length_cons, List.length_nil, Nat.reduceAdd, Nat.add_zero, Nat.zero_add, Nat.mul_one] at d1
      have d1' := (hr.old (a := ⟨B, o + i, none⟩) hBW).trans d1
      have hx2 : 0 ≤ x0 ∧ x0 < 18446744073709551616 := by
        simp [Lit.wf, IntKind.min, IntKind.max, IntKind.signed, IntKind.bits] at xf0
        omega
      obtain ⟨x, rfl⟩ : ∃ x : Nat, x0 = x := ⟨x0.toNat, by omega⟩
      have hg := hr.cell List.mem_cons_self i
      obtain ⟨x1, hx1⟩ : ∃ x1, g[i]? = some x1 := ⟨_, List.getElem?_eq_getElem (by rw [HLEN.out]; exact hlt)⟩
      rw [wRow_get hx1] at hg
      have hf := hr.frozen List.mem_cons_self i
      have h5 := hr.set i (.int .u64 (x : Int))
      rw [wRow_set] at h5
      have HW2 : Hid (W64 (g.set i x)) := fun y hy => by
        rcases List.mem_or_eq_of_mem_set hy with hy | rfl
        · exact HW.out y hy
        · omega
      clear hcs d1 xf0 hx2 hx1 hcap
      go_wp2_with fail
      exact ⟨⟨i + 1, g.set i x, by go_num, by omega, by omega, (by show _ = _; rw [List.length_set]; exact HLEN.out), HW2, h5⟩, by simp [intOf]; omega⟩
    · have hnl : (N : Int) ≤ i ∨ ((i : Int) < N ∧ (len : Int) ≤ i) := by omega
      have hsee := see_spec hr HCC.out (wok_row (W := W) (m := chB z C S O d e key :: m) (ib := ib) HLEN.out HN.out HW.out (by unfold maxLen; omega))
      have HSEE := Lib.hid hsee
      obtain ⟨y0, y1, y2, y3, y4, y5⟩ := box6 hr.skip
      clear hlt hsee hr
      rcases hnl with hnl | ⟨hnl2, hnl⟩
      all_goals
        go_wp2_with fail
        refine HSEE.out.mono ?_
        rintro r w4 hpost
        obtain ⟨v1, bs1, rfl, K1, h5⟩ := see_one hpost
        obtain ⟨E1, hE1⟩ : ∃ E1, (seeK (seeP (⟨C, S, O, key⟩ : Ch) g)).2 = E1 := ⟨_, rfl⟩
        obtain ⟨A0, A1, A2, k0, k1, k2, Ls, Ll, rfl, P1⟩ := core_parts K1
        have HK1 := Lib.hid K1
        obtain ⟨n0, hn0⟩ : ∃ n, (seeK (seeP (⟨C, S, O, key⟩ : Ch) g)).1.slots.length = n := ⟨_, rfl⟩
        obtain ⟨n1, hn1⟩ : ∃ n, (seeK (seeP (⟨C, S, O, key⟩ : Ch) g)).1.shelf.length = n := ⟨_, rfl⟩
        obtain ⟨n2, hn2⟩ : ∃ n, (seeK (seeP (⟨C, S, O, key⟩ : Ch) g)).1.slabs.length = n := ⟨_, rfl⟩
        obtain ⟨lk, hlk⟩ : ∃ n, (seeK (seeP (⟨C, S, O, key⟩ : Ch) g)).1.locked = n := ⟨_, rfl⟩
        have HE1 := Lib.hid hE1
        have HN0 := Lib.hid hn0
        have HN1 := Lib.hid hn1
        have HN2 := Lib.hid hn2
        have HLK := Lib.hid hlk
        rw [hE1, hn0, hn1, hn2, hlk]
        rw [hn0, hn1, hn2, hlk] at K1
        have HK := Lib.hid K1
        have h6 := h5.new (.cells #[.slice A0 n0 k0, .slice A1 n1 k1, .bool lk, .slice A2 n2 k2] 40)
        obtain ⟨kb, hkb⟩ : ∃ kb, w4.heap.size = kb := ⟨_, rfl⟩
        rw [hkb] at h6
        obtain ⟨i2, hi2, hzz, hs2, hby⟩ := info_get Apart.bool_info
        have hmk := fun W => run_make_rowN (P := Try.prog) 47 4 i2 _ Try.underlying47 hi2 hzz .i64 .i64 N N (Nat.le_refl _) (by rw [hby]; omega) (by omega) W
        rw [hs2, Nat.mul_one, madeCells_const _ (.bool false) _ (by simp [Value.cells]) (by intro j hj; obtain rfl : j = 0 := (by simp [Value.cells] at hj; omega); rfl), bRow_nil] at hmk
        have h7 := h6.new (.cells (bRow N []) 4)
        rw [World.size_alloc, hkb] at h7
        have h8 : Own W ((ib, .cells (wRow g) 22) :: ((kb + 1, .cells (bRow N []) 4) :: ((kb, .cells #[.slice A0 n0 k0, .slice A1 n1 k1, .bool lk, .slice A2 n2 k2] 40) :: (bs1 ++ (chB z C S O d e key :: m))))) _ := h7.perm (blind_p1 _ _ _ _ _)
        clear hi2 hzz hs2 hby y0 y1 y2 y3 y4 y5 hpost hE1 hn0 hn1 hn2 hlk P1
        obtain ⟨y0, y1, y2, y3, y4, y5⟩ := box6 (h8.skip.skip.skip.dropL)
        go_wp2_with fail
        have H8 := Lib.hid h8
        clear y0 y1 y2 y3 y4 y5 h5 h6 h7 h8 hkb hmk hcap
        refine (Apart.places_ok HOK.out H8.out).mono ?_
        rintro r w5 ⟨v6, bsP, rfl, o6, h9⟩
        have hlen : 0 < (castN (pl C S O)).length := by rw [castN_len, pl_eq, plB_len]; omega
        obtain ⟨g6, cap6, cur6, rfl, -, -⟩ := o6.form hlen
        have O6 := Lib.hid o6
        have h10 : Own W ((ib, .cells (wRow g) 22) :: ((kb + 1, .cells (bRow N []) 4) :: (bsP ++ ((kb, .cells #[.slice A0 n0 k0, .slice A1 n1 k1, .bool lk, .slice A2 n2 k2] 40) :: (bs1 ++ (chB z C S O d e key :: m)))))) _ := h9.perm (blind_p3 _ _ _ _)
        obtain ⟨Z, hZ⟩ : ∃ Z, (castN (pl C S O)).length = Z := ⟨_, rfl⟩
        have HZ := Lib.hid hZ
        rw [hZ]
        have hZ7 : Z ≤ 700 := by
          have h1 := plB_len C S O S
          have h2 : S * (3 + O) ≤ 32 * 19 := Nat.mul_le_mul c4 (by omega)
          rw [← hZ, castN_len, pl_eq]
          omega
        have H10 := Lib.hid h10
        clear hZ hlen o6 h9 h10
        go_wp2_with fail
        obtain ⟨w0, hw0⟩ : ∃ w0 : World, w0 = wr := ⟨_, rfl⟩
        subst hw0
        go_loopw [14] (fun iv wr => ∃ j : Nat, j ≤ Z ∧ iv = .int .i64 j ∧ Own W ((ib, .cells (wRow g) 22) :: ((kb + 1, .cells (bRow N ((pl C S O).take j)) 4) :: (bsP ++ ((kb, .cells #[.slice A0 n0 k0, .slice A1 n1 k1, .bool lk, .slice A2 n2 k2] 40) :: (bs1 ++ (chB z C S O d e key :: m)))))) wr) (fun iv _ => Z - (intOf iv).toNat)
        case atStart => exact ⟨0, by omega, rfl, by simpa using H10.out⟩
        case round =>
          clear H10 H8
          obtain ⟨j, hj, rfl, hr⟩ := hrel
          by_cases hlt : j < Z
          · have hlti : (j : Int) < Z := by omega
            obtain ⟨x, hx⟩ : ∃ x, (pl C S O)[j]? = some x := ⟨_, List.getElem?_eq_getElem (by have := HZ.out; rw [castN_len] at this; omega)⟩
            have hxi : (castN (pl C S O))[j]? = some (x : Int) := by simp [castN, hx]
            have hxN : x < N := by rw [HN.out]; exact mem_pl (List.mem_of_getElem? hx)
            have cx := SlO.cell O6.out hr.skip.skip rfl (ints_get hxi)
            have cb := hr.skip.cell List.mem_cons_self x
            rw [bRow_get _ hxN] at cb
            have fb := hr.skip.frozen List.mem_cons_self x
            have h7 := (hr.perm (List.Perm.swap _ _ _)).set x (.bool true)
            rw [bRow_set _ hxN, ← Apart.take_succ_get hx] at h7
            have h7 := h7.perm (List.Perm.swap _ _ _)
            have hxi0 : (0 : Int) ≤ (x : Int) := by omega
            have hxi1 : (x : Int) < N := by omega
            clear hxi hx
            go_wp2_with fail
            exact ⟨⟨j + 1, by omega, by go_num, h7⟩, by simp [intOf]; omega⟩
          · have hlti : ¬ (j : Int) < Z := by omega
            have hall : (pl C S O).take j = pl C S O := List.take_of_length_le (by have := HZ.out; rw [castN_len] at this; omega)
            rw [hall] at hr
            have HR := Lib.hid hr
            clear hall hr
            go_wp2_with fail
            obtain ⟨w6, hw6⟩ : ∃ w6 : World, w6 = wr := ⟨_, rfl⟩
            subst hw6
            go_loopw [15] (fun iv wr => ∃ (i : Nat) (g' : List Nat), iv = .int .i64 i ∧ i ≤ N ∧ Hid (g'.length = N) ∧ Hid (W64 g') ∧ Hid (∀ x ∈ pl C S O, at_ g' x = at_ g x) ∧ Own W ((ib, .cells (wRow g') 22) :: ((kb + 1, .cells (bRow N (pl C S O)) 4) :: (bsP ++ ((kb, .cells #[.slice A0 n0 k0, .slice A1 n1 k1, .bool lk, .slice A2 n2 k2] 40) :: (bs1 ++ (chB z C S O d e key :: m)))))) wr) (fun iv _ => N - (intOf iv).toNat)
            case atStart => exact ⟨0, g, rfl, by omega, HLEN, HW, (fun x _ => rfl), HR.out⟩
            case round =>
              clear HR
              obtain ⟨i, g', rfl, hi3, HLEN3, HW3, HEQ, hr⟩ := hrel
              by_cases hlt3 : i < N
              · have hlti3 : (i : Int) < N := by omega
                have hi0 : (0 : Int) ≤ i := by omega
                have cb := hr.skip.cell List.mem_cons_self i
                rw [bRow_get _ hlt3] at cb
                by_cases hin : i ∈ pl C S O
                · rw [decide_eq_true hin] at cb
                  go_wp2_with fail
                  exact ⟨⟨i + 1, g', by go_num, by omega, HLEN3, HW3, HEQ, hr⟩, by simp [intOf]; omega⟩
                · rw [decide_eq_false hin] at cb
                  have hg := hr.cell List.mem_cons_self i
                  obtain ⟨x1, hx1⟩ : ∃ x1, g'[i]? = some x1 := ⟨_, List.getElem?_eq_getElem (by rw [HLEN3.out]; exact hlt3)⟩
                  rw [wRow_get hx1] at hg
                  have hf := hr.frozen List.mem_cons_self i
                  have h5 := hr.set i (.int .u64 (v : Int))
                  rw [wRow_set] at h5
                  have HW4 : Hid (W64 (g'.set i v)) := fun y hy => by
                    rcases List.mem_or_eq_of_mem_set hy with hy | rfl
                    · exact HW3.out y hy
                    · exact HV.out
                  have HEQ2 : Hid (∀ x ∈ pl C S O, at_ (g'.set i v) x = at_ g x) := fun x hx => by
                    rw [← HEQ.out x hx]
                    unfold at_
                    rw [List.getD_eq_getElem?_getD, List.getD_eq_getElem?_getD, List.getElem?_set_ne (fun he : i = x => hin (by rw [he]; exact hx))]
                  clear hx1
                  go_wp2_with fail
                  exact ⟨⟨i + 1, g'.set i v, by go_num, by omega, (by show _ = _; rw [List.length_set]; exact HLEN3.out), HW4, HEQ2, h5⟩, by simp [intOf]; omega⟩
              · have hlti3 : ¬ (i : Int) < N := by omega
                have hsee := see_spec hr HCC.out (wok_row (W := W) (m := (kb + 1, .cells (bRow N (pl C S O)) 4) :: (bsP ++ ((kb, .cells #[.slice A0 n0 k0, .slice A1 n1 k1, .bool lk, .slice A2 n2 k2] 40) :: (bs1 ++ (chB z C S O d e key :: m))))) (ib := ib) HLEN3.out HN.out HW3.out (by unfold maxLen; omega))
                rw [see_congr (c := ⟨C, S, O, key⟩) (HLEN3.out.trans HN.out) (HLEN.out.trans HN.out) HEQ.out] at hsee
                have HSEE2 := Lib.hid hsee
                obtain ⟨y0, y1, y2, y3, y4, y5⟩ := box6 hr.skip.skip.dropL.skip.dropL
                clear hsee hr
                go_wp2_with fail
                refine HSEE2.out.mono ?_
                rintro r w7 hpost
                obtain ⟨v2, bs2, rfl, K2, h11⟩ := see_one hpost
                have HK2 := Lib.hid K2
                obtain ⟨D0, D1, D2, l0, l1, l2, Ls2, Ll2, rfl, P2⟩ := core_parts K2
                rw [HE1.out, HN0.out, HN1.out, HN2.out, HLK.out]
                rw [HN0.out, HN1.out, HN2.out, HLK.out] at K2
                have HKK2 := Lib.hid K2
                have h12 := h11.new (.cells #[.slice D0 n0 l0, .slice D1 n1 l1, .bool lk, .slice D2 n2 l2] 40)
                obtain ⟨nk, hnk⟩ : ∃ nk, w7.heap.size = nk := ⟨_, rfl⟩
                rw [hnk] at h12
                have hkc := h12.skip.dropL.skip.skip.dropL.cell List.mem_cons_self
                have q0 := hkc 0
                have q1 := hkc 1
                have q2 := hkc 2
                have q3 := hkc 3
                simp at q0 q1 q2 q3
                have H13 := Lib.hid (h12.perm (blind_p2 _ _ _ _ _ _ _ _))
                clear hpost P2 K2 h11 h12 hkc y0 y1 y2 y3 y4 y5 hnk
                go_wp2_with fail
                refine (same_spec H13.out HK.out HKK2.out (seeK_small ⟨c2, c4, c6⟩)).mono ?_
                rintro r w8 ⟨rfl, h14⟩
                go_wp2_with fail
                refine (Apart.works_in (h14.dropL.dropL.skip.skip.skip.dropL.skip.skip)).mono ?_
                rintro r w9 ⟨rfl, h15⟩
                go_wp2_with fail
                go_ret
                exact ⟨rfl, h15⟩
end
end Go.Proofs.Ytigakendeghoaaa.See

/-
  Slices of words (uint64): what they read as, append, wainscotref00.EqWords; a slice that came in, with its reach. No condition but sizes.
-/
namespace Go.Proofs.Ytigakendeghoaaa
open Go.RowKit

theorem word_info : (Try.prog.info? 22).map (fun i => (i.zero, i.size, i.bytes)) = some (some (.int .u64 0), 1, 8) := by kernel_rfl
/-- words as values -/
def words (l : List Nat) : List Value := l.map fun (n : Nat) => .int .u64 (n : Int)
theorem words_len (l : List Nat) : (words l).length = l.length := by simp [words]
theorem words_get {l : List Nat} {i n : Nat} (h : l[i]? = some n) : (words l)[i]? = some (.int .u64 (n : Int)) := by simp [words, h]
theorem words_one (l : List Nat) : ∀ u ∈ words l, u.oneCell' = true := by
  intro u hu
  obtain ⟨n, _, rfl⟩ := List.mem_map.1 hu
  rfl
theorem words_append (a b : List Nat) : words a ++ words b = words (a ++ b) := by simp [words]
/-- a slice of words that the call owns -/
abbrev WordsOwn (ex : Bool) (v : Value) (l : List Nat) (bs : List (Nat × Obj)) : Prop := SlO ex 22 1 v l.length (words l) bs
/-- a slice that reads as words -/
abbrev WordsSrc (w : World) (v : Value) (l : List Nat) : Prop := Src w 1 v l.length (words l)
section
variable {W w : World} {m bs : List (Nat × Obj)} {v x : Value} {l l' : List Nat}
/-- append, of words -/
theorem wpList_app_words {ops : Array Oper} {rest : List Oper} {o : Oper} {a : Act} {Q : Exit → Act → World → Prop} (hgd : o.guard = none) (s x : Operand)
    (ho : o.op = .call { callee := .builtin .append, args := #[s, x], argTypes := #[35, 35] }) {v xv : Value} (hes : a.eval s = v) (hex : a.eval x = xv)
    (hs : WordsOwn true v l bs) (hO : Own W (bs ++ m) w) (hx : WordsSrc w xv l') (hlen : (l.length + l'.length) * 8 ≤ 140737488351232)
    (h : ∀ v' w' bs', WordsOwn true v' (l ++ l') bs' → Own W (bs' ++ m) w' → (v' = .slice none 0 0 ↔ v = .slice none 0 0 ∧ l' = []) → wpList Try.prog ops Q rest (a.put o.dst v') w') :
    wpList Try.prog ops Q (o :: rest) a w := by
  obtain ⟨i, hi, hz, hsz, hb⟩ := info_get word_info
  refine wpList_app hgd s x _ ho hes hex 22 i _ 1 8 Try.underlying35 hi hz hsz hb rfl (by omega) hs hO hx (words_one l') (by unfold maxLen; omega) (by omega) fun v' w' bs' h1 h2 h3 => ?_
  rw [words_append, ← List.length_append] at h1
  exact h v' w' bs' h1 h2 (by rw [h3, List.length_eq_zero_iff])
theorem WordsSrc.slice (h : WordsSrc w v l) : ∃ A c, v = .slice A l.length c := by
  rcases h.2 with ⟨rfl, hn⟩ | ⟨a, c, rfl, -⟩
  · exact ⟨none, 0, by rw [hn]⟩
  · exact ⟨_, _, rfl⟩
set_option maxHeartbeats 1000000 in
/-- two slices that read as the same words -/
theorem eqWords_same {v1 v2 : Value} (h1 : WordsSrc w v1 l) (h2 : WordsSrc w v2 l) (hl : l.length * 8 ≤ 140737488351232) :
    Calls Try.prog 39 #[v1, v2] w fun e w' => e = .returned (.bool true) ∧ ∃ n, w' = w.drewN n := by
  obtain ⟨A1, c1, rfl⟩ := h1.slice
  obtain ⟨A2, c2, rfl⟩ := h2.slice
  obtain ⟨n, hn⟩ : ∃ n, l.length = n := ⟨_, rfl⟩
  have H1 := Lib.hid h1
  have H2 := Lib.hid h2
  have HN := Lib.hid hn
  rw [hn] at hl
  rw [hn]
  have hb : ((n : Int) != (n : Int)) = false := by simp
  clear h1 h2 hn
  go_enter Try.func39, Try.ntmps39
  go_wp2_with fail
  go_loopw [5] (fun k wr => ∃ i : Nat, i ≤ n ∧ k = .int .i64 i ∧ ∃ n, wr = w.drewN n) (fun k _ => n - (intOf k).toNat)
  case atStart => exact ⟨0, Nat.zero_le _, rfl, 0, rfl⟩
  case round =>
    obtain ⟨i, hi, rfl, nq0, rfl⟩ := hrel
    by_cases hlt : i < n
    · rcases H1.out.2 with ⟨_, h0⟩ | ⟨a1, k1, he1, hc1⟩
      · have := HN.out; omega
      rcases H2.out.2 with ⟨_, h0⟩ | ⟨a2, k2, he2, hc2⟩
      · have := HN.out; omega
      cases he1
      cases he2
      obtain ⟨x, hx⟩ : ∃ x, l[i]? = some x := ⟨_, List.getElem?_eq_getElem (by have := HN.out; omega)⟩
      have cx := hc1 i _ (words_get hx)
      have cy := hc2 i _ (words_get hx)
      have i0 : (0 : Int) ≤ (i : Int) := by omega
      have i1 : (i : Int) < (n : Int) := by omega
      have hxb : ((x : Int) != (x : Int)) = false := by simp
      clear hx hc1 hc2
      go_wp2_with fail
      go_quiet (fail)
      go_wp2_with fail
      go_roundw
      case rel => exact ⟨i + 1, by omega, by go_num, nq0 + nq, by first | rfl | rw [World.drewN_drewN]⟩
      case measure => simp [intOf]; omega
    · obtain rfl : i = n := by omega
      go_wp2_with fail
      go_ret
      exact ⟨rfl, _, rfl⟩
end
section
open Go.ChangeShapes Go.WideShapes Go.ChangeAt
variable {H : Type} {enc : TypeId × Value → H} {P : Program} {w : World} {base : Nat} {held : Bool}
/-- a slice of words that came in: what it reads as, and its reach -/
theorem open_words {t e : TypeId} {v : Value} {d : DataW H} {p : List MemPlace} {ts : List TypeId} {ds : List (DataW H)} (hsz : (DataW.weightsEach P ts ds).all (· ≤ reachBytes) = true) {j : Nat} (hj : ts[j]? = some t) (hd : ds[j]? = some d)
    (ht : P.underlying t = some (.slice e)) (he : P.underlying e = some (.int .u64)) (hc1 : P.cellsOf e = 1) (hb8 : P.bytesOf e = 8) (hone : v.cells.toList = [v])
    (h : DataW.Trod enc P w base (fun _ => true) held t v d p) (hlt : ∀ x ∈ p, x.block < w.heap.size) :
    ∃ g : List Nat, Src w 1 v g.length (words g) ∧ (∀ x ∈ g, x < 18446744073709551616) ∧ g.length * 8 ≤ 140737488351232 ∧ ∃ A c, v = .slice A g.length c ∧ g.length ≤ c ∧ c ≤ maxLen := by
  have hks : flatKinds P 4 e = some [some .u64] := by simp [flatKinds, he]
  obtain ⟨fuel, hf⟩ := h
  have hf0 := hf
  rw [hone] at hf
  rcases Deep.open_slice ht hf with ⟨h0, _⟩ | ⟨a, len, cap, m, n', D, Pl, hcs, hb, hl, hm, hmm, hx, hi⟩
  · simp only [List.cons.injEq, and_true] at h0
    subst h0
    exact ⟨[], ⟨rfl, .inl ⟨rfl, rfl⟩⟩, by simp, by simp, none, 0, rfl, Nat.le_refl _, by unfold maxLen; omega⟩
  · simp only [List.cons.injEq, and_true] at hcs
    subst hcs
    simp only [if_true] at hmm
    subst hmm
    obtain ⟨cap, rfl⟩ : ∃ cap, cap = m := ⟨m, rfl⟩
    simp only [Prod.mk.injEq] at hx
    have hd' := hd
    rw [hx.1] at hd'
    have hr := sized_slice hsz hj hd' ht
    rw [hb8] at hr
    simp only [List.length_map, List.length_range, reachBytes] at hr
    have hcap : len * 8 ≤ 140737488351232 := by omega
    have hall : ∀ i, i < len → ∃ x : Nat, w.cell? (a.add i) = some (.int .u64 (x : Int)) ∧ x < 18446744073709551616 := by
      intro i hil
      obtain ⟨cs', hc, ht'⟩ := hi i (by omega)
      obtain ⟨u, hu, n, rfl, hwf⟩ := trod_flat n' 4 e cs' _ _ ht' hks 0 _ rfl
      obtain ⟨_, hcl, hat⟩ := World.cells?_some hc
      have := hat 0 (by omega)
      rw [Go.Deep.add_add, hc1, Nat.mul_one, Nat.add_zero, hu] at this
      have h2 : 0 ≤ n ∧ n < 18446744073709551616 := by
        simp [Lit.wf, IntKind.min, IntKind.max, IntKind.signed, IntKind.bits] at hwf
        omega
      refine ⟨n.toNat, ?_, by omega⟩
      rw [this, show ((n.toNat : Nat) : Int) = n from by omega]
    let g : List Nat := (List.range len).map fun i => if h : i < len then (hall i h).choose else 0
    have hgl : g.length = len := by simp [g]
    have hgi : ∀ i x, g[i]? = some x → ∃ h : i < len, x = (hall i h).choose := by
      intro i x hix
      have hil : i < len := by
        have := (List.getElem?_eq_some_iff.1 hix).1
        omega
      simp only [g, List.getElem?_map, List.getElem?_range hil, Option.map_some, Option.some.injEq, dif_pos hil] at hix
      exact ⟨hil, hix.symm⟩
    refine ⟨g, ⟨by rw [words_len, Nat.mul_one], .inr ⟨a, cap, by rw [hgl], fun j u hu => ?_⟩⟩, fun x hx => ?_, by rw [hgl]; exact hcap, some a, cap, by rw [hgl], by rw [hgl]; exact hl, hm⟩
    · have hjl : j < g.length := by
        have := (List.getElem?_eq_some_iff.1 hu).1
        rw [words_len] at this
        exact this
      have hg1 : g[j]? = some (g[j]'hjl) := List.getElem?_eq_getElem hjl
      rw [words_get hg1] at hu
      simp only [Option.some.injEq] at hu
      subst hu
      obtain ⟨hil, hx⟩ := hgi j _ hg1
      rw [hx]
      exact (hall j hil).choose_spec.1
    · obtain ⟨i, hi', rfl⟩ := List.getElem_of_mem hx
      obtain ⟨hil, hx⟩ := hgi i _ (List.getElem?_eq_getElem hi')
      rw [hx]
      exact (hall i hil).choose_spec.2
end
end Go.Proofs.Ytigakendeghoaaa

/-
  Contracts: chart.See and wainscotref21.See, of any chart and any words. No condition.
-/
namespace Go.Proofs.Ytigakendeghoaaa.See
open Go.RowKit
open Apart (chV chB box6 ChAt)
open chartPlaces (Ok I64)
attribute [local go_sem ↓] Go.wp_at_zero Go.wp_at_succ
section
variable {W w : World} {M m : List (Nat × Obj)} {A : Option Addr} {v : Value} {n k : Nat} {g : List Nat} {C S O d e key : Int}
abbrev zeroCore : Value := .agg #[.slice none 0 0, .slice none 0 0, .bool false, .slice none 0 0]
set_option maxRecDepth 100000 in
set_option maxHeartbeats 4000000 in
theorem see_bad (h : Own W m w) (hb : ¬ Ok C S O d e ∨ (Ok C S O d e ∧ (n : Int) ≠ 4 * C + 4 + 4 * S + S * O)) :
    Calls Try.prog 36 #[.slice A n k, chV C S O d e key] w fun r w' => r = .returned (.tuple #[zeroCore, .int .i64 2]) ∧ Own W m w' := by
  have h1 := (h.new (.cells #[.int .i64 C, .int .i64 S, .int .i64 O, .int .i64 d, .int .i64 e, .int .u64 key] 24)).new (.cells #[.slice none 0 0, .slice none 0 0, .bool false, .slice none 0 0] 40)
  obtain ⟨b, hb0⟩ : ∃ b, w.heap.size = b := ⟨_, rfl⟩
  simp only [World.size_alloc] at h1
  rw [hb0] at h1
  have h1 : Own W (kBlk (b + 1) (.slice none 0 0) (.slice none 0 0) false (.slice none 0 0) :: (chB b C S O d e key :: m)) _ := h1
  obtain ⟨y0, y1, y2, y3, y4, y5⟩ := box6 h1.skip
  rcases hb with hno | ⟨hok, hne⟩
  · have hck := fun ws (hws : Own W (kBlk (b + 1) (.slice none 0 0) (.slice none 0 0) false (.slice none 0 0) :: (chB b C S O d e key :: m)) ws) => Apart.check_all (key := key) (C := C) (S := S) (O := O) (d := d) (e := e) hws
    rw [if_neg hno] at hck
    have HCK := Lib.hid hck
    clear hck hno
    have H1 := Lib.hid h1
    clear h1 h
    unfold chV
    go_enter Try.func36, Try.ntmps36
    go_wp2_with fail
    refine (HCK.out _ H1.out).mono ?_
    rintro r w2 ⟨rfl, h2⟩
    clear y0 y1 y2 y3 y4 y5
    obtain ⟨⟨z0, z1, z2, z3⟩, ⟨f0, f1, f2, f3⟩⟩ := boxK h2
    go_wp2_with fail
    have h9 := kset (sv' := .slice none 0 0) (hv' := .slice none 0 0) (l' := false) (lv' := .slice none 0 0) h2
    obtain ⟨⟨e0, e1, e2, e3⟩, -⟩ := boxK h9
    exact bodyPost_ret (v := .tuple #[.agg #[.slice none 0 0, .slice none 0 0, .bool false, .slice none 0 0], .int .i64 2]) (by simp [results, Try.f36, go_sem, e0, e1, e2, e3]) rfl ⟨rfl, h9.skip.skip⟩
  · have HOK := Lib.hid hok
    have hnb : ((n : Int) != 4 * C + 4 + 4 * S + S * O) = true := by simpa using hne
    obtain ⟨V, hV⟩ : ∃ V, 4 * C + 4 + 4 * S + S * O = V := ⟨_, rfl⟩
    rw [hV] at hnb
    have HV := Lib.hid hV
    have H1 := Lib.hid h1
    clear hne hok hV h1 h
    unfold chV
    go_enter Try.func36, Try.ntmps36
    go_wp2_with fail
    refine (Apart.check_ok HOK.out H1.out).mono ?_
    rintro r w2 ⟨rfl, h2⟩
    clear y0 y1 y2 y3 y4 y5
    obtain ⟨y0, y1, y2, y3, y4, y5⟩ := box6 h2.skip
    go_wp2_with fail
    refine (Apart.words_ok HOK.out h2).mono ?_
    rintro r w3 ⟨rfl, h3⟩
    rw [HV.out]
    clear y0 y1 y2 y3 y4 y5
    obtain ⟨⟨z0, z1, z2, z3⟩, ⟨f0, f1, f2, f3⟩⟩ := boxK h3
    go_wp2_with fail
    have h9 := kset (sv' := .slice none 0 0) (hv' := .slice none 0 0) (l' := false) (lv' := .slice none 0 0) h3
    obtain ⟨⟨e0, e1, e2, e3⟩, -⟩ := boxK h9
    exact bodyPost_ret (v := .tuple #[.agg #[.slice none 0 0, .slice none 0 0, .bool false, .slice none 0 0], .int .i64 2]) (by simp [results, Try.f36, go_sem, e0, e1, e2, e3]) rfl ⟨rfl, h9.skip.skip⟩
set_option maxRecDepth 100000 in
set_option maxHeartbeats 4000000 in
theorem rsee_bad (hC : I64 C) (hS : I64 S) (hOO : I64 O) (h : Own W m w) (hb : ¬ Ok C S O d e ∨ (Ok C S O d e ∧ (n : Int) ≠ 4 * C + 4 + 4 * S + S * O)) :
    Calls Try.prog 37 #[.slice A n k, chV C S O d e key] w fun r w' => r = .returned (.tuple #[zeroCore, .int .i64 2]) ∧ Own W m w' := by
  have h1 := (h.new (.cells #[.int .i64 C, .int .i64 S, .int .i64 O, .int .i64 d, .int .i64 e, .int .u64 key] 24)).new (.cells #[.slice none 0 0, .slice none 0 0, .bool false, .slice none 0 0] 40)
  obtain ⟨b, hb0⟩ : ∃ b, w.heap.size = b := ⟨_, rfl⟩
  simp only [World.size_alloc] at h1
  rw [hb0] at h1
  have h1 : Own W (kBlk (b + 1) (.slice none 0 0) (.slice none 0 0) false (.slice none 0 0) :: (chB b C S O d e key :: m)) _ := h1
  obtain ⟨y0, y1, y2, y3, y4, y5⟩ := box6 h1.skip
  rcases hb with hno | ⟨hok, hne⟩
  · have hck := fun ws (hws : Own W (kBlk (b + 1) (.slice none 0 0) (.slice none 0 0) false (.slice none 0 0) :: (chB b C S O d e key :: m)) ws) => Apart.rcheck_all (key := key) (C := C) (S := S) (O := O) (d := d) (e := e) hC hS hOO hws
    rw [if_neg hno] at hck
    have HCK := Lib.hid hck
    clear hck hno hC hS hOO
    have H1 := Lib.hid h1
    clear h1 h
    unfold chV
    go_enter Try.func37, Try.ntmps37
    go_wp2_with fail
    refine (HCK.out _ H1.out).mono ?_
    rintro r w2 ⟨rfl, h2⟩
    clear y0 y1 y2 y3 y4 y5
    obtain ⟨⟨z0, z1, z2, z3⟩, ⟨f0, f1, f2, f3⟩⟩ := boxK h2
    go_wp2_with fail
    have h9 := kset (sv' := .slice none 0 0) (hv' := .slice none 0 0) (l' := false) (lv' := .slice none 0 0) h2
    obtain ⟨⟨e0, e1, e2, e3⟩, -⟩ := boxK h9
    exact bodyPost_ret (v := .tuple #[.agg #[.slice none 0 0, .slice none 0 0, .bool false, .slice none 0 0], .int .i64 2]) (by simp [results, Try.f37, go_sem, e0, e1, e2, e3]) rfl ⟨rfl, h9.skip.skip⟩
  · have HOK := Lib.hid hok
    have hnb : ((n : Int) != 4 * C + 4 + 4 * S + S * O) = true := by simpa using hne
    obtain ⟨V, hV⟩ : ∃ V, 4 * C + 4 + 4 * S + S * O = V := ⟨_, rfl⟩
    rw [hV] at hnb
    have HV := Lib.hid hV
    have H1 := Lib.hid h1
    clear hne hok hV h1 h hC hS hOO
    unfold chV
    go_enter Try.func37, Try.ntmps37
    go_wp2_with fail
    refine (rcheck_ok HOK.out H1.out).mono ?_
    rintro r w2 ⟨rfl, h2⟩
    clear y0 y1 y2 y3 y4 y5
    obtain ⟨y0, y1, y2, y3, y4, y5⟩ := box6 h2.skip
    go_wp2_with fail
    refine (Apart.rwords_ok HOK.out h2).mono ?_
    rintro r w3 ⟨rfl, h3⟩
    rw [HV.out]
    clear y0 y1 y2 y3 y4 y5
    obtain ⟨⟨z0, z1, z2, z3⟩, ⟨f0, f1, f2, f3⟩⟩ := boxK h3
    go_wp2_with fail
    have h9 := kset (sv' := .slice none 0 0) (hv' := .slice none 0 0) (l' := false) (lv' := .slice none 0 0) h3
    obtain ⟨⟨e0, e1, e2, e3⟩, -⟩ := boxK h9
    exact bodyPost_ret (v := .tuple #[.agg #[.slice none 0 0, .slice none 0 0, .bool false, .slice none 0 0], .int .i64 2]) (by simp [results, Try.f37, go_sem, e0, e1, e2, e3]) rfl ⟨rfl, h9.skip.skip⟩
/-- what See answers, of any chart and any words -/
def seeA (C S O d e key : Int) (g : List Nat) : CoreP × Int :=
  if Ok C S O d e ∧ (g.length : Int) = 4 * C + 4 + 4 * S + S * O then seeK (seeP ⟨C.toNat, S.toNat, O.toNat, key.toNat⟩ g) else (⟨[], [], false, []⟩, 2)
theorem seeA_small : SmallC (seeA C S O d e key g).1 := by
  unfold seeA
  by_cases h : Ok C S O d e ∧ (g.length : Int) = 4 * C + 4 + 4 * S + S * O
  · rw [if_pos h]
    have h1 := h.1
    unfold Ok at h1
    exact seeK_small ⟨by simp only; omega, by simp only; omega, by simp only; omega⟩
  · rw [if_neg h]
    exact ⟨by simp, by simp, by simp, (fun s hs => by simp at hs), (fun s hs => by simp at hs)⟩
/-- an answer of See -/
def SeeOut (W : World) (m : List (Nat × Obj)) (r : CoreP × Int) (e : Ending) (w' : World) : Prop :=
  ∃ v bs, e = .returned (.tuple #[v, .int .i64 r.2]) ∧ CoreO v r.1 bs ∧ Own W (bs ++ m) w'
/-- a slice that reads as words, whatever else there is -/
structure WRd (W : World) (m : List (Nat × Obj)) (v : Value) (g : List Nat) : Prop where
  src : ∀ ws, Own W m ws → WordsSrc ws v g
  w64 : W64 g
  cap : ∃ A c, v = .slice A g.length c ∧ g.length ≤ c ∧ c ≤ maxLen
theorem WRd.more {v : Value} {m' : List (Nat × Obj)} (h : WRd W m v g) : WRd W (m' ++ m) v g := ⟨fun ws hw => h.src ws hw.dropL, h.w64, h.cap⟩
theorem WRd.wok {v : Value} (hO : Own W m w) (h : WRd W m v g) {c : Ch} (hn : g.length = c.words) : ∃ B o k, v = .slice (some ⟨B, o, none⟩) g.length k ∧ WOk W m B o g.length k g c := by
  obtain ⟨A, k, rfl, h1, h2⟩ := h.cap
  have hpos : 0 < g.length := by rw [hn]; unfold Ch.words; omega
  rcases (h.src w hO).2 with ⟨_, h0⟩ | ⟨a, k', hv, hc⟩
  · omega
  · simp only [Value.slice.injEq, true_and] at hv
    obtain ⟨rfl, rfl⟩ := hv
    have hcell := hc 0 _ (words_get (List.getElem?_eq_getElem hpos))
    have hs : a.spot = none := by
      have := World.cell?_spot hcell
      simpa [Addr.add] using this
    obtain ⟨B, o, s⟩ := a
    simp only at hs
    subst hs
    refine ⟨B, o, k, rfl, fun ws hws j x hj => ?_, rfl, hn, h.w64, h1, h2⟩
    rcases (h.src ws hws).2 with ⟨h0, _⟩ | ⟨a', k', hv, hc'⟩
    · cases h0
    · simp only [Value.slice.injEq, true_and, Option.some.injEq] at hv
      obtain ⟨rfl, rfl⟩ := hv
      have := hc' j _ (words_get hj)
      rw [add_lit] at this
      exact this
theorem seeOut_of {r : Option CoreP} {e : Ending} {w' : World} (h : SeePost W m r e w') : SeeOut W m (seeK r) e w' := see_one h
theorem see_out (hO : Own W m w) (hv : WRd W m v g) (hkey : 0 ≤ key ∧ key < 18446744073709551616) : Calls Try.prog 36 #[v, chV C S O d e key] w (SeeOut W m (seeA C S O d e key g)) := by
  unfold seeA
  by_cases h : Ok C S O d e ∧ (g.length : Int) = 4 * C + 4 + 4 * S + S * O
  · rw [if_pos h]
    have h1 := h.1
    unfold Ok at h1
    have hw : g.length = (⟨C.toNat, S.toNat, O.toNat, key.toNat⟩ : Ch).words := by
      have := words_eq ⟨C.toNat, S.toNat, O.toNat, key.toNat⟩
      simp only at this
      rw [show ((C.toNat : Nat) : Int) = C from by omega, show ((S.toNat : Nat) : Int) = S from by omega, show ((O.toNat : Nat) : Int) = O from by omega, ← h.2] at this
      omega
    obtain ⟨B, o, k, rfl, hk⟩ := hv.wok hO hw
    have hc : COk ⟨C.toNat, S.toNat, O.toNat, key.toNat⟩ d e := ⟨by
      simp only
      rw [show ((C.toNat : Nat) : Int) = C from by omega, show ((S.toNat : Nat) : Int) = S from by omega, show ((O.toNat : Nat) : Int) = O from by omega]
      exact h.1, by simp only; omega⟩
    have hs := see_spec hO hc hk
    unfold cV at hs
    simp only at hs
    rw [show ((C.toNat : Nat) : Int) = C from by omega, show ((S.toNat : Nat) : Int) = S from by omega, show ((O.toNat : Nat) : Int) = O from by omega, show ((key.toNat : Nat) : Int) = key from by omega] at hs
    exact hs.mono fun _ _ h => seeOut_of h
  · rw [if_neg h]
    obtain ⟨A, k, rfl, -, -⟩ := hv.cap
    refine (see_bad hO (by
      by_cases hok : Ok C S O d e
      · exact .inr ⟨hok, fun he => h ⟨hok, he⟩⟩
      · exact .inl hok)).mono ?_
    rintro r w' ⟨rfl, h2⟩
    exact ⟨_, [], rfl, core_none, h2⟩
theorem rsee_out (hC : I64 C) (hS : I64 S) (hOO : I64 O) (hO : Own W m w) (hv : WRd W m v g) (hkey : 0 ≤ key ∧ key < 18446744073709551616) : Calls Try.prog 37 #[v, chV C S O d e key] w (SeeOut W m (seeA C S O d e key g)) := by
  unfold seeA
  by_cases h : Ok C S O d e ∧ (g.length : Int) = 4 * C + 4 + 4 * S + S * O
  · rw [if_pos h]
    have h1 := h.1
    unfold Ok at h1
    have hw : g.length = (⟨C.toNat, S.toNat, O.toNat, key.toNat⟩ : Ch).words := by
      have := words_eq ⟨C.toNat, S.toNat, O.toNat, key.toNat⟩
      simp only at this
      rw [show ((C.toNat : Nat) : Int) = C from by omega, show ((S.toNat : Nat) : Int) = S from by omega, show ((O.toNat : Nat) : Int) = O from by omega, ← h.2] at this
      omega
    obtain ⟨B, o, k, rfl, hk⟩ := hv.wok hO hw
    have hc : COk ⟨C.toNat, S.toNat, O.toNat, key.toNat⟩ d e := ⟨by
      simp only
      rw [show ((C.toNat : Nat) : Int) = C from by omega, show ((S.toNat : Nat) : Int) = S from by omega, show ((O.toNat : Nat) : Int) = O from by omega]
      exact h.1, by simp only; omega⟩
    have hs := r1see_spec hO hc hk
    unfold cV at hs
    simp only at hs
    rw [show ((C.toNat : Nat) : Int) = C from by omega, show ((S.toNat : Nat) : Int) = S from by omega, show ((O.toNat : Nat) : Int) = O from by omega, show ((key.toNat : Nat) : Int) = key from by omega] at hs
    exact hs.mono fun _ _ h => seeOut_of h
  · rw [if_neg h]
    obtain ⟨A, k, rfl, -, -⟩ := hv.cap
    refine (rsee_bad hC hS hOO hO (by
      by_cases hok : Ok C S O d e
      · exact .inr ⟨hok, fun he => h ⟨hok, he⟩⟩
      · exact .inl hok)).mono ?_
    rintro r w' ⟨rfl, h2⟩
    exact ⟨_, [], rfl, core_none, h2⟩
end
end Go.Proofs.Ytigakendeghoaaa.See

/-
  Contract: wainscotlaw21.fitted. No condition.
-/
namespace Go.Proofs.Ytigakendeghoaaa.See
open Go.RowKit
open Apart (chV chB box6 ChAt)
open chartPlaces (Ok I64)
section
open Go Ex chartPlaces Apart
variable {C S O d e key : Int} {W w : World} {m : List (Nat × Obj)}
theorem rwords_bad (hC : I64 C) (hS : I64 S) (hOO : I64 O) (h : ¬ Ok C S O d e) (hO : Own W m w) : Calls Try.prog 22 #[chV C S O d e key] w fun r w' => r = .returned (.int .i64 0) ∧ Own W m w' := by
  refine (tree_ends mixed (ok1 (d := d) (e := e) (key := key) (i := 0) (k := 0) hC hS hOO) (args := [chart]) rfl tWords [] (by simp) r_rWords (bad_words _ _ _ _ _ _ _ _) w tabs_nil).mono ?_
  rintro _ _ ⟨⟨x, rfl, hx⟩, h2⟩
  refine ⟨?_, hO.then_below h2⟩
  have h8 : s1 C S O d e key 0 0 8 = 2 := by
    show chartPlaces.chk C S O d e key 0 0 = 2
    unfold chartPlaces.chk
    rw [chk_is, if_neg h]
    rfl
  rw [ends_of hx]
  simp [tWords, endOf, Cnd.ev, okQ, v, l, SE.ev, h8, num, Ex.valOf]
end
section
variable {W w : World} {m : List (Nat × Obj)} {v : Value} {g : List Nat} {C S O d e key : Int}
/-- how many words fitted makes -/
def fitN (C S O d e : Int) : Nat := if Ok C S O d e then (4 * C + 4 + 4 * S + S * O).toNat else 0
theorem fitN_le : fitN C S O d e ≤ 4096 := by
  unfold fitN
  split
  · rename_i h
    have := Apart.mul_ok h
    unfold Ok at h
    omega
  · omega
theorem rwords_all (hC : I64 C) (hS : I64 S) (hOO : I64 O) (hO : Own W m w) : Calls Try.prog 22 #[chV C S O d e key] w fun r w' => r = .returned (.int .i64 (fitN C S O d e : Nat)) ∧ Own W m w' := by
  unfold fitN
  by_cases h : Ok C S O d e
  · rw [if_pos h]
    have h1 := h
    have h2 := Apart.mul_ok h
    unfold Ok at h1
    rw [show (((4 * C + 4 + 4 * S + S * O).toNat : Nat) : Int) = 4 * C + 4 + 4 * S + S * O from by omega]
    exact Apart.rwords_ok h hO
  · rw [if_neg h]
    exact rwords_bad hC hS hOO h hO
set_option maxRecDepth 100000 in
set_option maxHeartbeats 4000000 in
theorem fitted_spec (hC : I64 C) (hS : I64 S) (hOO : I64 O) (hO : Own W m w) (hv : WRd W m v g) (hlen : g.length * 8 ≤ 140737488351232) :
    Calls Try.prog 35 #[v, chV C S O d e key] w fun r w' => ∃ v' g' bs, r = .returned v' ∧ WRd W (bs ++ m) v' g' ∧ g'.length ≤ 4096 ∧ Own W (bs ++ m) w' := by
  obtain ⟨N, hN⟩ : ∃ N, fitN C S O d e = N := ⟨_, rfl⟩
  have hN2 : N ≤ 4096 := by rw [← hN]; exact fitN_le
  have hwd := fun ws m' (hws : Own W m' ws) => rwords_all (key := key) (d := d) (e := e) hC hS hOO hws
  rw [hN] at hwd
  have HWD := Lib.hid hwd
  have h0 := hO.new (.cells #[.int .i64 C, .int .i64 S, .int .i64 O, .int .i64 d, .int .i64 e, .int .u64 key] 24)
  obtain ⟨z, hz⟩ : ∃ z, w.heap.size = z := ⟨_, rfl⟩
  rw [hz] at h0
  have h0 : Own W (chB z C S O d e key :: m) _ := h0
  obtain ⟨y0, y1, y2, y3, y4, y5⟩ := box6 h0
  have H0 := Lib.hid h0
  obtain ⟨A, cap, rfl, hc1, hc2⟩ := hv.cap
  obtain ⟨len, hln⟩ : ∃ len, g.length = len := ⟨_, rfl⟩
  have HV := Lib.hid hv
  have HLN := Lib.hid hln
  rw [hln] at hlen hc1
  rw [hln]
  clear hwd hN hC hS hOO hv h0 hO hln hc1 hc2
  unfold chV
  go_enter Try.func35, Try.ntmps35
  go_wp2_with fail
  refine (HWD.out _ _ H0.out).mono ?_
  rintro r w3 ⟨rfl, h3⟩
  clear y0 y1 y2 y3 y4 y5
  obtain ⟨i, hi, hzz, hs, hby⟩ := info_get u64_info
  have hmk := fun W => run_make_rowN (P := Try.prog) 35 22 i _ Try.underlying35 hi hzz .i64 .i64 N N (Nat.le_refl _) (by rw [hby]; omega) (by omega) W
  rw [hs, Nat.mul_one, madeCells_const _ (.int .u64 0) _ (by simp [Value.cells]) (by intro j hj; obtain rfl : j = 0 := (by simp [Value.cells] at hj; omega); rfl), wRow_zero] at hmk
  clear hi hzz hs hby
  have h4 : Own W ((w3.heap.size, .cells (wRow (List.replicate N 0)) 22) :: (chB z C S O d e key :: m)) _ := h3.new (.cells (wRow (List.replicate N 0)) 22)
  go_wp2_with fail
  obtain ⟨ib, hib⟩ : ∃ ib, w3.heap.size = ib := ⟨_, rfl⟩
  obtain ⟨wb, hwb⟩ : ∃ wb, w3.alloc (.cells (wRow (List.replicate N 0)) 22) = wb := ⟨_, rfl⟩
  rw [hib, hwb] at h4
  rw [hib, hwb]
  have H4 := Lib.hid h4
  clear hmk hib hwb h3 h4
  go_loopw [6] (fun iv wr => ∃ (i : Nat) (g : List Nat), iv = .int .i64 i ∧ i ≤ N ∧ i ≤ len ∧ Hid (g.length = N) ∧ Hid (W64 g) ∧ Own W ((ib, .cells (wRow g) 22) :: (chB z C S O d e key :: m)) wr) (fun iv _ => N - (intOf iv).toNat)
  case atStart => exact ⟨0, _, rfl, by omega, by omega, List.length_replicate, (fun x hx => by rw [List.eq_of_mem_replicate hx]; omega), H4.out⟩
  case round =>
    clear H4
    obtain ⟨i, g', rfl, hi, hil, HLEN, HW, hr⟩ := hrel
    by_cases hlt : i < N ∧ i < len
    · obtain ⟨hlt, hll⟩ := hlt
      have hlti : (i : Int) < N := by omega
      have hlli : (i : Int) < len := by omega
      have hi0 : (0 : Int) ≤ i := by omega
      rcases (HV.out.src wr hr.skip.skip).2 with ⟨_, h0⟩ | ⟨a, k', hvv, hc⟩
      · have := HLN.out; omega
      simp only [Value.slice.injEq] at hvv
      obtain ⟨rfl, -, rfl⟩ := hvv
      obtain ⟨x, hx⟩ : ∃ x, g[i]? = some x := ⟨_, List.getElem?_eq_getElem (by have := HLN.out; omega)⟩
      have cx := hc i _ (words_get hx)
      have hx64 : x < 18446744073709551616 := HV.out.w64 x (List.mem_of_getElem? hx)
      have hg := hr.cell List.mem_cons_self i
      obtain ⟨x1, hx1⟩ : ∃ x1, g'[i]? = some x1 := ⟨_, List.getElem?_eq_getElem (by rw [HLEN.out]; exact hlt)⟩
      rw [wRow_get hx1] at hg
      have hf := hr.frozen List.mem_cons_self i
      have h5 := hr.set i (.int .u64 (x : Int))
      rw [wRow_set] at h5
      have HW2 : Hid (W64 (g'.set i x)) := fun y hy => by
        rcases List.mem_or_eq_of_mem_set hy with hy | rfl
        · exact HW.out y hy
        · omega
      clear hc hx hx64 hx1
      go_wp2_with fail
      exact ⟨⟨i + 1, g'.set i x, by go_num, by omega, by omega, (by show _ = _; rw [List.length_set]; exact HLEN.out), HW2, h5⟩, by simp [intOf]; omega⟩
    · have hnl : (N : Int) ≤ i ∨ ((i : Int) < N ∧ (len : Int) ≤ i) := by omega
      have hfin : ∃ g2 bs, WRd W (bs ++ m) (.slice (some ⟨ib, 0, none⟩) N N) g2 ∧ g2.length ≤ 4096 ∧ Own W (bs ++ m) wr := by
        refine ⟨g', [(ib, .cells (wRow g') 22), chB z C S O d e key], ⟨fun ws hws => ⟨by rw [words_len, Nat.mul_one], .inr ⟨_, N, by rw [HLEN.out], fun j u hj => ?_⟩⟩, HW.out, ⟨_, N, by rw [HLEN.out], by rw [HLEN.out]; exact Nat.le_refl _, by unfold maxLen; omega⟩⟩, by rw [HLEN.out]; exact hN2, hr⟩
        rw [add_lit0]
        have := hws.cell List.mem_cons_self j
        rw [this]
        have hjl : j < g'.length := by
          have := (List.getElem?_eq_some_iff.1 hj).1
          rw [words_len] at this
          exact this
        have hg1 : g'[j]? = some (g'[j]'hjl) := List.getElem?_eq_getElem hjl
        rw [words_get hg1] at hj
        rw [wRow_get hg1]
        exact hj
      obtain ⟨g2, bs, f1, f2, f3⟩ := hfin
      have F1 := Lib.hid f1
      have F3 := Lib.hid f3
      clear f1 f3 hlt hr
      rcases hnl with hnl | ⟨hnl2, hnl⟩
      all_goals
        go_wp2_with fail
        go_ret
        exact ⟨_, g2, bs, rfl, F1.out, f2, F3.out⟩
end
end Go.Proofs.Ytigakendeghoaaa.See

/-
  wainscotlaw21.ChartSees: the walk. No condition but the argument's reach. (Printed by mksees.py.)
-/
namespace Go.Proofs.Ytigakendeghoaaa.See
open Go.RowKit
open Apart (chV chB box6 ChAt)
open chartPlaces (Ok I64)
section
variable {W w : World} {m : List (Nat × Obj)} {v : Value} {g : List Nat}
theorem sees_p1 {α : Type} (x y : α) (a b r : List α) : (x :: (b ++ (y :: (a ++ r)))).Perm (a ++ (b ++ (y :: (x :: r)))) := by
  classical
  rw [List.perm_iff_count]
  intro c
  simp only [List.count_append, List.count_cons]
  omega
theorem sees_p2 {α : Type} (a s b c l b2 : List α) (y x : α) (r : List α) : ((a ++ (s ++ (b ++ (c ++ l)))) ++ (b2 ++ (y :: (x :: r)))).Perm (b ++ (y :: (x :: (b2 ++ (a ++ (s ++ (c ++ (l ++ r)))))))) := by
  classical
  rw [List.perm_iff_count]
  intro c
  simp only [List.count_append, List.count_cons]
  omega
theorem i64_of {n : Int} (h : (Lit.int .i64 n).wf = true) : I64 n := by
  simp [Lit.wf, IntKind.min, IntKind.max, IntKind.signed, IntKind.bits] at h
  unfold chartPlaces.I64
  omega
set_option maxRecDepth 100000 in
set_option maxHeartbeats 8000000 in
theorem sees_walk (hO : Own W m w) (C S O d e key : Int) (hC : (Lit.int .i64 C).wf = true) (hS : (Lit.int .i64 S).wf = true) (hOO : (Lit.int .i64 O).wf = true) (hkey : (Lit.int .u64 key).wf = true)
    (hv : WRd W m v g) (hlen : g.length * 8 ≤ 140737488351232) :
    Calls Try.prog 4 #[v, chV C S O d e key] w fun r w' => r = .returned (.bool true) ∧ Own W m w' := by
  have hk2 : 0 ≤ key ∧ key < 18446744073709551616 := by
    simp [Lit.wf, IntKind.min, IntKind.max, IntKind.signed, IntKind.bits] at hkey
    omega
  have HC := Lib.hid (i64_of hC)
  have HS := Lib.hid (i64_of hS)
  have HOO := Lib.hid (i64_of hOO)
  have HK := Lib.hid hk2
  have h0 := hO.new (.cells #[.int .i64 C, .int .i64 S, .int .i64 O, .int .i64 d, .int .i64 e, .int .u64 key] 24)
  obtain ⟨z, hz⟩ : ∃ z, w.heap.size = z := ⟨_, rfl⟩
  rw [hz] at h0
  have h0 : Own W (chB z C S O d e key :: m) _ := h0
  obtain ⟨y0, y1, y2, y3, y4, y5⟩ := box6 h0
  have H0 := Lib.hid h0
  obtain ⟨A, cap, rfl, hc1, hc2⟩ := hv.cap
  obtain ⟨len, hln⟩ : ∃ len, g.length = len := ⟨_, rfl⟩
  have HV := Lib.hid hv
  have HLN := Lib.hid hln
  have HLEN := Lib.hid hlen
  rw [hln] at hlen hc1
  rw [hln]
  have hq : ((len : Int) % 7 != 3) = true ∨ ((len : Int) % 7 != 3) = false := by cases (len : Int) % 7 != 3 <;> simp
  clear hC hS hOO hkey hk2 hv h0 hO hln hc1 hc2
  rcases hq with hq | hq
  · have hfit := fun ws (hws : Own W (chB z C S O d e key :: m) ws) => fitted_spec (d := d) (e := e) (key := key) HC.out HS.out HOO.out hws (HV.out.more (m' := [chB z C S O d e key])) HLEN.out
    rw [HLN.out] at hfit
    have HFIT := Lib.hid hfit
    clear hfit
    unfold chV
    go_enter Try.func4, Try.ntmps4
    go_wp2_with fail
    refine (HFIT.out _ H0.out).mono ?_
    rintro r w4 ⟨vW, gw, bsW, rfl, vw, hgw, h4⟩
    obtain ⟨AW, cw, hvw, -, -⟩ := vw.cap
    subst hvw
    obtain ⟨lw, hlw⟩ : ∃ lw, gw.length = lw := ⟨_, rfl⟩
    have HGW : Hid (gw.length * 8 ≤ 140737488351232) := by show _ ≤ _; omega
    have HVW : Hid (WRd W (bsW ++ (chB z C S O d e key :: m)) (.slice AW lw cw) gw) := by show WRd _ _ _ _; rw [← hlw]; exact vw
    have HLW := Lib.hid hlw
    rw [hlw]
    have H4 := Lib.hid h4
    clear h4 vw hgw hlw
    have hwl := WordsSrc.slice (HVW.out.src _ H4.out)
    clear y0 y1 y2 y3 y4 y5
    obtain ⟨y0, y1, y2, y3, y4, y5⟩ := box6 H4.out.dropL
    go_wp2_with (at_builtin; refine wpList_app_words (l := []) (l' := gw) (m := (bsW ++ (chB z C S O d e key :: m))) (bs := []) rfl _ _ rfl rfl rfl (SlO.nil true 22 1) H4.out (HVW.out.src _ H4.out) (by have := HGW.out; simpa using this) ?_; intro v' w' bI k1 k2 _; have K1 := Lib.hid k1; have K2 := Lib.hid k2; obtain ⟨A9, c9, hv9, h91, h92⟩ := k1.slice; subst hv9; clear k1 k2; obtain ⟨y0, y1, y2, y3, y4, y5⟩ := box6 K2.out.dropL.dropL)
    have hvi : WRd W (bI ++ (bsW ++ (chB z C S O d e key :: m))) (.slice A9 gw.length c9) gw := ⟨fun ws hws => SlO.src K1.out hws, HVW.out.w64, ⟨A9, c9, rfl, by simpa using h91, h92⟩⟩
    have HVI := Lib.hid hvi
    clear hvi h91 h92
    refine (see_out K2.out HVI.out HK.out).mono ?_
    rintro r w5 ⟨vA, bsA, rfl, KA, h5⟩
    clear y0 y1 y2 y3 y4 y5
    have HKA := Lib.hid KA
    obtain ⟨E, hE⟩ : ∃ E, (seeA C S O d e key gw).2 = E := ⟨_, rfl⟩
    have HE := Lib.hid hE
    rw [hE]
    obtain ⟨Ls, sv, b0, sh, b1, Ll, lv, b2, rfl, es, so, s1, hsh, el, lo, l1, hbs⟩ := KA
    obtain ⟨A0, k0, rfl, -, -⟩ := s1.slice
    obtain ⟨A1, k1, rfl, -, -⟩ := SlO.slice hsh
    obtain ⟨A2, k2, rfl, -, -⟩ := l1.slice
    obtain ⟨n0, hn0⟩ : ∃ n, Ls.length = n := ⟨_, rfl⟩
    obtain ⟨n1, hn1⟩ : ∃ n, (seeA C S O d e key gw).1.shelf.length = n := ⟨_, rfl⟩
    obtain ⟨n2, hn2⟩ : ∃ n, Ll.length = n := ⟨_, rfl⟩
    obtain ⟨lk, hlk⟩ : ∃ n, (seeA C S O d e key gw).1.locked = n := ⟨_, rfl⟩
    have hn1s : n1 ≤ 100 := by rw [← hn1]; exact seeA_small.2.2.1
    rw [hn0, hn1, hn2, hlk] at HKA ⊢
    have HSH : Hid (IntsOwn true (.slice A1 (seeA C S O d e key gw).1.shelf.length k1) (seeA C S O d e key gw).1.shelf b1) := hsh
    have HN1 := Lib.hid hn1
    have HBS := Lib.hid hbs
    clear es so s1 hsh el lo l1 hbs hn0 hn1 hn2 hlk hE
    have h6 := h5.new (.cells #[.slice A0 n0 k0, .slice A1 n1 k1, .bool lk, .slice A2 n2 k2] 40)
    obtain ⟨ka, hka⟩ : ∃ ka, w5.heap.size = ka := ⟨_, rfl⟩
    rw [hka] at h6
    have h6 : Own W (kBlk ka (.slice A0 n0 k0) (.slice A1 n1 k1) lk (.slice A2 n2 k2) :: (bsA ++ (bI ++ (bsW ++ (chB z C S O d e key :: m))))) _ := h6
    obtain ⟨y0, y1, y2, y3, y4, y5⟩ := box6 h6.skip.dropL.dropL.dropL
    have HVB : Hid (WRd W (kBlk ka (.slice A0 n0 k0) (.slice A1 n1 k1) lk (.slice A2 n2 k2) :: (bsA ++ (bI ++ (bsW ++ (chB z C S O d e key :: m))))) (.slice AW lw cw) gw) := ((HVW.out.more (m' := bI)).more (m' := bsA)).more (m' := [kBlk ka (.slice A0 n0 k0) (.slice A1 n1 k1) lk (.slice A2 n2 k2)])
    go_wp2_with fail
    obtain ⟨w6, hw6⟩ : ∃ w6, w5.alloc (.cells #[.slice A0 n0 k0, .slice A1 n1 k1, .bool lk, .slice A2 n2 k2] 40) = w6 := ⟨_, rfl⟩
    rw [hw6] at h6 ⊢
    have H6 := Lib.hid h6
    clear h5 h6 hka hw6 y0 y1 y2 y3 y4 y5
    refine (rsee_out HC.out HS.out HOO.out H6.out HVB.out HK.out).mono ?_
    rintro r w7 ⟨vB, bsB, rfl, KB, h7⟩
    rw [HE.out]
    have HKB := Lib.hid KB
    obtain ⟨B0, B1, B2, q0, q1, q2, Ms, Ml, rfl, -⟩ := core_parts KB
    obtain ⟨m0, hm0⟩ : ∃ n, (seeA C S O d e key gw).1.slots.length = n := ⟨_, rfl⟩
    obtain ⟨m2, hm2⟩ : ∃ n, (seeA C S O d e key gw).1.slabs.length = n := ⟨_, rfl⟩
    obtain ⟨lk2, hlk2⟩ : ∃ n, (seeA C S O d e key gw).1.locked = n := ⟨_, rfl⟩
    rw [hm0, HN1.out, hm2, hlk2] at HKB ⊢
    clear KB hm0 hm2 hlk2
    have h8 := h7.new (.cells #[.slice B0 m0 q0, .slice B1 n1 q1, .bool lk2, .slice B2 m2 q2] 40)
    obtain ⟨kb, hkb⟩ : ∃ kb, w7.heap.size = kb := ⟨_, rfl⟩
    rw [hkb] at h8
    have h8 : Own W (kBlk kb (.slice B0 m0 q0) (.slice B1 n1 q1) lk2 (.slice B2 m2 q2) :: (bsB ++ (kBlk ka (.slice A0 n0 k0) (.slice A1 n1 k1) lk (.slice A2 n2 k2) :: (bsA ++ (bI ++ (bsW ++ (chB z C S O d e key :: m))))))) _ := h8
    obtain ⟨⟨y0, y1, y2, y3⟩, -⟩ := boxK h8
    obtain ⟨⟨z0, z1, z2, z3⟩, -⟩ := boxK h8.skip.dropL
    have h9 := h8.perm (sees_p1 _ _ _ _ _)
    have H9 := Lib.hid h9
    go_wp2_with fail
    clear h7 h8 h9 hkb y0 y1 y2 y3 z0 z1 z2 z3 HVB
    refine (same_spec H9.out HKA.out HKB.out seeA_small).mono ?_
    rintro r w9 ⟨rfl, h10⟩
    rw [HBS.out] at h10
    have h11 := h10.perm (sees_p2 _ _ _ _ _ _ _ _ _)
    have H11 := Lib.hid h11
    go_wp2_with fail
    clear h10 h11
    obtain ⟨w0, hw0⟩ : ∃ w0 : World, w0 = w9 := ⟨_, rfl⟩
    subst hw0
    go_loopw [11] (fun iv wr => ∃ (i : Nat) (l : List Int) (bx : List (Nat × Obj)), iv = .int .i64 i ∧ i ≤ n1 ∧ Hid (l.length = n1) ∧ Hid (IntsOwn true (.slice A1 l.length k1) l bx) ∧ Own W (bx ++ (kBlk ka (.slice A0 n0 k0) (.slice A1 n1 k1) lk (.slice A2 n2 k2) :: (kBlk kb (.slice B0 m0 q0) (.slice B1 n1 q1) lk2 (.slice B2 m2 q2) :: (bsB ++ (b0 ++ (slotBlocks Ls ++ (b2 ++ (slabBlocks Ll ++ (bI ++ (bsW ++ (chB z C S O d e key :: m))))))))))) wr) (fun iv _ => n1 - (intOf iv).toNat)
    case atStart => exact ⟨0, _, b1, rfl, by omega, HN1, HSH, H11.out⟩
    case round =>
      clear H11 H9
      obtain ⟨i, l, bx, rfl, hi, HL, HX, hr⟩ := hrel
      obtain ⟨⟨z0, z1, z2, z3⟩, -⟩ := boxK hr.dropL
      by_cases hlt : i < n1
      · have hlti : (i : Int) < n1 := by omega
        have hi0 : (0 : Int) ≤ i := by omega
        have hX := HX.out
        obtain ⟨gx, cx, cur, hvx, -, -, -, -, -⟩ := SlO.form hX (by rw [HL.out]; omega)
        simp only [Value.slice.injEq, true_and] at hvx
        obtain ⟨rfl, rfl⟩ := hvx
        obtain ⟨x, hx⟩ : ∃ x, l[i]? = some x := ⟨_, List.getElem?_eq_getElem (by rw [HL.out]; exact hlt)⟩
        have ci := SlO.cell hX hr rfl (ints_get hx)
        have fi := SlO.free hX hr rfl i
        obtain ⟨bx', s1, s2⟩ := SlO.store hX hr rfl (j := i) (by rw [HL.out]; omega) (.int .i64 (-9))
        rw [ints_set] at s1
        have S1 : Hid (IntsOwn true (.slice (some ⟨gx, 0, none⟩) (l.set i (-9)).length k1) (l.set i (-9)) bx') := by
          show IntsOwn _ _ _ _
          unfold IntsOwn
          rw [List.length_set]
          exact s1
        have S2 := Lib.hid s2
        clear hX hx s1 s2
        go_wp2_with fail
        exact ⟨⟨i + 1, l.set i (-9), bx', by go_num, by omega, (by show _ = _; rw [List.length_set]; exact HL.out), S1, S2.out⟩, by simp [intOf]; omega⟩
      · have hlti : ¬ (i : Int) < n1 := by omega
        have hr2 := hr.dropL.skip.skip.dropL.dropL.dropL.dropL.dropL
        have q1 := HVI.out.src _ hr2
        have q2 := (HVW.out.more (m' := bI)).src _ hr2
        have Q1 := Lib.hid q1
        have Q2 := Lib.hid q2
        have HR2 := Lib.hid hr2
        clear q1 q2 hr hr2
        go_wp2_with fail
        refine (eqWords_same Q1.out Q2.out HGW.out).mono ?_
        rintro r w10 ⟨rfl, nd, rfl⟩
        have h12 := HR2.out.drewN nd
        go_wp2_with fail
        refine (Apart.works_in h12.dropL.dropL).mono ?_
        rintro r w11 ⟨rfl, h13⟩
        go_wp2_with fail
        go_ret
        exact ⟨rfl, h13.skip⟩
  · unfold chV
    have HVW : Hid (WRd W (chB z C S O d e key :: m) (.slice A len cap) g) := by
      have := HV.out.more (m' := [chB z C S O d e key])
      rw [HLN.out] at this
      exact this
    have HGW := HLEN
    have H4 := H0
    have HLW := HLN
    go_enter Try.func4, Try.ntmps4
    have hwl := WordsSrc.slice (HVW.out.src _ H4.out)
    clear y0 y1 y2 y3 y4 y5
    obtain ⟨y0, y1, y2, y3, y4, y5⟩ := box6 H4.out
    go_wp2_with (at_builtin; refine wpList_app_words (l := []) (l' := g) (m := (chB z C S O d e key :: m)) (bs := []) rfl _ _ rfl rfl rfl (SlO.nil true 22 1) H4.out (HVW.out.src _ H4.out) (by have := HGW.out; simpa using this) ?_; intro v' w' bI k1 k2 _; have K1 := Lib.hid k1; have K2 := Lib.hid k2; obtain ⟨A9, c9, hv9, h91, h92⟩ := k1.slice; subst hv9; clear k1 k2; obtain ⟨y0, y1, y2, y3, y4, y5⟩ := box6 K2.out.dropL)
    have hvi : WRd W (bI ++ (chB z C S O d e key :: m)) (.slice A9 g.length c9) g := ⟨fun ws hws => SlO.src K1.out hws, HVW.out.w64, ⟨A9, c9, rfl, by simpa using h91, h92⟩⟩
    have HVI := Lib.hid hvi
    clear hvi h91 h92
    refine (see_out K2.out HVI.out HK.out).mono ?_
    rintro r w5 ⟨vA, bsA, rfl, KA, h5⟩
    clear y0 y1 y2 y3 y4 y5
    have HKA := Lib.hid KA
    obtain ⟨E, hE⟩ : ∃ E, (seeA C S O d e key g).2 = E := ⟨_, rfl⟩
    have HE := Lib.hid hE
    rw [hE]
    obtain ⟨Ls, sv, b0, sh, b1, Ll, lv, b2, rfl, es, so, s1, hsh, el, lo, l1, hbs⟩ := KA
    obtain ⟨A0, k0, rfl, -, -⟩ := s1.slice
    obtain ⟨A1, k1, rfl, -, -⟩ := SlO.slice hsh
    obtain ⟨A2, k2, rfl, -, -⟩ := l1.slice
    obtain ⟨n0, hn0⟩ : ∃ n, Ls.length = n := ⟨_, rfl⟩
    obtain ⟨n1, hn1⟩ : ∃ n, (seeA C S O d e key g).1.shelf.length = n := ⟨_, rfl⟩
    obtain ⟨n2, hn2⟩ : ∃ n, Ll.length = n := ⟨_, rfl⟩
    obtain ⟨lk, hlk⟩ : ∃ n, (seeA C S O d e key g).1.locked = n := ⟨_, rfl⟩
    have hn1s : n1 ≤ 100 := by rw [← hn1]; exact seeA_small.2.2.1
    rw [hn0, hn1, hn2, hlk] at HKA ⊢
    have HSH : Hid (IntsOwn true (.slice A1 (seeA C S O d e key g).1.shelf.length k1) (seeA C S O d e key g).1.shelf b1) := hsh
    have HN1 := Lib.hid hn1
    have HBS := Lib.hid hbs
    clear es so s1 hsh el lo l1 hbs hn0 hn1 hn2 hlk hE
    have h6 := h5.new (.cells #[.slice A0 n0 k0, .slice A1 n1 k1, .bool lk, .slice A2 n2 k2] 40)
    obtain ⟨ka, hka⟩ : ∃ ka, w5.heap.size = ka := ⟨_, rfl⟩
    rw [hka] at h6
    have h6 : Own W (kBlk ka (.slice A0 n0 k0) (.slice A1 n1 k1) lk (.slice A2 n2 k2) :: (bsA ++ (bI ++ (chB z C S O d e key :: m)))) _ := h6
    obtain ⟨y0, y1, y2, y3, y4, y5⟩ := box6 h6.skip.dropL.dropL
    have HVB : Hid (WRd W (kBlk ka (.slice A0 n0 k0) (.slice A1 n1 k1) lk (.slice A2 n2 k2) :: (bsA ++ (bI ++ (chB z C S O d e key :: m)))) (.slice A len cap) g) := ((HVW.out.more (m' := bI)).more (m' := bsA)).more (m' := [kBlk ka (.slice A0 n0 k0) (.slice A1 n1 k1) lk (.slice A2 n2 k2)])
    go_wp2_with fail
    obtain ⟨w6, hw6⟩ : ∃ w6, w5.alloc (.cells #[.slice A0 n0 k0, .slice A1 n1 k1, .bool lk, .slice A2 n2 k2] 40) = w6 := ⟨_, rfl⟩
    rw [hw6] at h6 ⊢
    have H6 := Lib.hid h6
    clear h5 h6 hka hw6 y0 y1 y2 y3 y4 y5
    refine (rsee_out HC.out HS.out HOO.out H6.out HVB.out HK.out).mono ?_
    rintro r w7 ⟨vB, bsB, rfl, KB, h7⟩
    rw [HE.out]
    have HKB := Lib.hid KB
    obtain ⟨B0, B1, B2, q0, q1, q2, Ms, Ml, rfl, -⟩ := core_parts KB
    obtain ⟨m0, hm0⟩ : ∃ n, (seeA C S O d e key g).1.slots.length = n := ⟨_, rfl⟩
    obtain ⟨m2, hm2⟩ : ∃ n, (seeA C S O d e key g).1.slabs.length = n := ⟨_, rfl⟩
    obtain ⟨lk2, hlk2⟩ : ∃ n, (seeA C S O d e key g).1.locked = n := ⟨_, rfl⟩
    rw [hm0, HN1.out, hm2, hlk2] at HKB ⊢
    clear KB hm0 hm2 hlk2
    have h8 := h7.new (.cells #[.slice B0 m0 q0, .slice B1 n1 q1, .bool lk2, .slice B2 m2 q2] 40)
    obtain ⟨kb, hkb⟩ : ∃ kb, w7.heap.size = kb := ⟨_, rfl⟩
    rw [hkb] at h8
    have h8 : Own W (kBlk kb (.slice B0 m0 q0) (.slice B1 n1 q1) lk2 (.slice B2 m2 q2) :: (bsB ++ (kBlk ka (.slice A0 n0 k0) (.slice A1 n1 k1) lk (.slice A2 n2 k2) :: (bsA ++ (bI ++ (chB z C S O d e key :: m)))))) _ := h8
    obtain ⟨⟨y0, y1, y2, y3⟩, -⟩ := boxK h8
    obtain ⟨⟨z0, z1, z2, z3⟩, -⟩ := boxK h8.skip.dropL
    have h9 := h8.perm (sees_p1 _ _ _ _ _)
    have H9 := Lib.hid h9
    go_wp2_with fail
    clear h7 h8 h9 hkb y0 y1 y2 y3 z0 z1 z2 z3 HVB
    refine (same_spec H9.out HKA.out HKB.out seeA_small).mono ?_
    rintro r w9 ⟨rfl, h10⟩
    rw [HBS.out] at h10
    have h11 := h10.perm (sees_p2 _ _ _ _ _ _ _ _ _)
    have H11 := Lib.hid h11
    go_wp2_with fail
    clear h10 h11
    obtain ⟨w0, hw0⟩ : ∃ w0 : World, w0 = w9 := ⟨_, rfl⟩
    subst hw0
    go_loopw [11] (fun iv wr => ∃ (i : Nat) (l : List Int) (bx : List (Nat × Obj)), iv = .int .i64 i ∧ i ≤ n1 ∧ Hid (l.length = n1) ∧ Hid (IntsOwn true (.slice A1 l.length k1) l bx) ∧ Own W (bx ++ (kBlk ka (.slice A0 n0 k0) (.slice A1 n1 k1) lk (.slice A2 n2 k2) :: (kBlk kb (.slice B0 m0 q0) (.slice B1 n1 q1) lk2 (.slice B2 m2 q2) :: (bsB ++ (b0 ++ (slotBlocks Ls ++ (b2 ++ (slabBlocks Ll ++ (bI ++ (chB z C S O d e key :: m)))))))))) wr) (fun iv _ => n1 - (intOf iv).toNat)
    case atStart => exact ⟨0, _, b1, rfl, by omega, HN1, HSH, H11.out⟩
    case round =>
      clear H11 H9
      obtain ⟨i, l, bx, rfl, hi, HL, HX, hr⟩ := hrel
      obtain ⟨⟨z0, z1, z2, z3⟩, -⟩ := boxK hr.dropL
      by_cases hlt : i < n1
      · have hlti : (i : Int) < n1 := by omega
        have hi0 : (0 : Int) ≤ i := by omega
        have hX := HX.out
        obtain ⟨gx, cx, cur, hvx, -, -, -, -, -⟩ := SlO.form hX (by rw [HL.out]; omega)
        simp only [Value.slice.injEq, true_and] at hvx
        obtain ⟨rfl, rfl⟩ := hvx
        obtain ⟨x, hx⟩ : ∃ x, l[i]? = some x := ⟨_, List.getElem?_eq_getElem (by rw [HL.out]; exact hlt)⟩
        have ci := SlO.cell hX hr rfl (ints_get hx)
        have fi := SlO.free hX hr rfl i
        obtain ⟨bx', s1, s2⟩ := SlO.store hX hr rfl (j := i) (by rw [HL.out]; omega) (.int .i64 (-9))
        rw [ints_set] at s1
        have S1 : Hid (IntsOwn true (.slice (some ⟨gx, 0, none⟩) (l.set i (-9)).length k1) (l.set i (-9)) bx') := by
          show IntsOwn _ _ _ _
          unfold IntsOwn
          rw [List.length_set]
          exact s1
        have S2 := Lib.hid s2
        clear hX hx s1 s2
        go_wp2_with fail
        exact ⟨⟨i + 1, l.set i (-9), bx', by go_num, by omega, (by show _ = _; rw [List.length_set]; exact HL.out), S1, S2.out⟩, by simp [intOf]; omega⟩
      · have hlti : ¬ (i : Int) < n1 := by omega
        have hr2 := hr.dropL.skip.skip.dropL.dropL.dropL.dropL.dropL
        have q1 := HVI.out.src _ hr2
        have q2 := (HVW.out.more (m' := bI)).src _ hr2
        have Q1 := Lib.hid q1
        have Q2 := Lib.hid q2
        have HR2 := Lib.hid hr2
        clear q1 q2 hr hr2
        go_wp2_with fail
        refine (eqWords_same Q1.out Q2.out HGW.out).mono ?_
        rintro r w10 ⟨rfl, nd, rfl⟩
        have h12 := HR2.out.drewN nd
        go_wp2_with fail
        refine (Apart.works_in h12.dropL).mono ?_
        rintro r w11 ⟨rfl, h13⟩
        go_wp2_with fail
        go_ret
        exact ⟨rfl, h13.skip⟩
end
end Go.Proofs.Ytigakendeghoaaa.See
