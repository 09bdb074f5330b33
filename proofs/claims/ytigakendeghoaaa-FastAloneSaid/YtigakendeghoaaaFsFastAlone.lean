import Derived.Test.YtigakendeghoaaaFsFastA
import Derived.Test.YtigakendeghoaaaFs11
import Derived.Test.YtigakendeghoaaaFs6
import Derived.Test.YtigakendeghoaaaFs8
/-
  wainscotlaw22.FastAlone: the walk. No condition.
-/
namespace Go.Proofs.Ytigakendeghoaaa.Fast
open Go Mem See Step
open Go.RowKit
open Apart (chV chB box6 ChAt)
attribute [local go_sem ↓] Go.wp_at_zero Go.wp_at_succ
section
variable {W w : World} {m : List (Nat × Obj)} {b0 b1 k : Nat} {O key T : Nat} {g g' : List Nat} {L : List Int} {x o : Int}
theorem cok_ch (h1 : 1 ≤ O) (h2 : O ≤ 16) (hk : key < 18446744073709551616) : COk (ch O key) 0 0 :=
  ⟨by unfold chartPlaces.Ok; show (1 : Int) ≤ ((1 : Nat) : Int) ∧ _; simp only; omega, hk⟩
theorem words_ch : (ch O key).words = 12 + O := by
  unfold Ch.words
  simp only
  omega
theorem thr4 (hO : Own W (mB b0 b1 (12 + O) k :: wB b1 g :: m) w) (h1 : 1 ≤ O) (h2 : O ≤ 16) (hkey : key < 18446744073709551616) (hl : g.length = 12 + O) {t0 t4 : TaskP} (hF : Four O key t0 t4 g g') (he : t4.end_ = 1) (hk : k ≤ 1000000) :
    Calls Try.prog 45 #[.pointer (some ⟨b0, 0, none⟩), cV (ch O key) 0 0, t0.v, .int .i64 9] w fun r w' => ∃ k', k' ≤ k + 4 ∧ r = .returned (.tuple #[t4.v, .int .i64 4]) ∧ Own W (mB b0 b1 (12 + O) k' :: wB b1 g' :: m) w' := by
  have := through_spec (c := ch O key) (d := 0) (e := 0) (t := t0) hO (cok_ch h1 h2 hkey) hl words_ch.symm 4 9 (by omega) (by omega) (by omega) hF.mid (by rw [hF.run]; simp only; omega) (by omega)
  rw [hF.run] at this
  exact this
theorem lst (hO : Own W (mB b0 b1 (12 + O) k :: wB b1 g :: m) w) (h1 : 1 ≤ O) (h2 : O ≤ 16) (hkey : key < 18446744073709551616) (hg : Good O key g L T) :
    Calls Try.prog 46 #[.pointer (some ⟨b0, 0, none⟩), cV (ch O key) 0 0] w (Listed W (mB b0 b1 (12 + O) k :: wB b1 g :: m) ⟨0, L, T, []⟩) := by
  obtain ⟨K, hs, hx⟩ := good_see hg h1 h2
  exact listed_spec hO (cok_ch h1 h2 hkey) hg.len words_ch.symm hg.w64 hs hx rfl
theorem turn_up (T i : Nat) : up64 ((T + i) % 18446744073709551616) = (T + (i + 1)) % 18446744073709551616 := by
  unfold up64
  omega
theorem turn_ne {n : Int} {T i : Nat} (h : IntKind.u64.wrap n = T) (hT : T < 18446744073709551616) : (((up64 ((T + i) % 18446744073709551616) : Nat) : Int) != IntKind.u64.wrap (IntKind.u64.wrap (IntKind.u64.wrap n + (i : Int)) + 1)) = false := by
  rw [h, turn_up, IntKind.wrap_u64, IntKind.wrap_u64, bne_eq_false_iff_eq]
  omega
theorem al_p1 {α : Type} (x y t a : α) (l : List α) : (x :: y :: t :: a :: l).Perm (t :: a :: x :: y :: l) := by
  classical
  rw [List.perm_iff_count]
  intro q
  simp only [List.count_cons]
  omega
theorem first_cell {A : Option Addr} {l cp : Nat} {x : Int} {l' : List Int} (h : IntsSrc w (.slice A l cp) l') (hx : l'[0]? = some x) : ∃ B o, A = some ⟨B, o, none⟩ ∧ w.cell? ⟨B, o, none⟩ = some (.int .i64 x) := by
  rcases h.2 with ⟨_, hn⟩ | ⟨a, c, he, hc⟩
  · rw [List.length_eq_zero_iff.1 hn] at hx
    cases hx
  · simp only [Value.slice.injEq] at he
    obtain ⟨rfl, -, -⟩ := he
    have hcell := hc 0 (.int .i64 x) (by simp [ints, hx])
    have hs : a.spot = none := by
      have := World.cell?_spot hcell
      simpa [Addr.add] using this
    obtain ⟨B, o, s⟩ := a
    simp only at hs
    subst hs
    rw [add_lit] at hcell
    exact ⟨B, o, rfl, hcell⟩
set_option maxRecDepth 100000 in
set_option maxHeartbeats 8000000 in
theorem alone_walk (hO : Own W m w) (n key many : Int) (hn : (Lit.int .i64 n).wf = true) (hkey : (Lit.int .u64 key).wf = true) (hm : (Lit.int .i64 many).wf = true) :
    Calls Try.prog 8 #[.int .i64 n, .int .u64 key, .int .i64 many] w fun r w' => r = .returned (.bool true) ∧ Own W m w' := by
  have hk2 : 0 ≤ key ∧ key < 18446744073709551616 := by
    simp [Lit.wf, IntKind.min, IntKind.max, IntKind.signed, IntKind.bits] at hkey
    omega
  obtain ⟨key, rfl⟩ : ∃ k : Nat, key = k := ⟨key.toNat, by omega⟩
  have HKEY : Hid (key < 18446744073709551616) := by show _ < _; omega
  have HN := Lib.hid hn
  have HM := Lib.hid hm
  have H0 := Lib.hid hO
  obtain ⟨hb1, hb2⟩ := emod_bd n 16 (by omega)
  obtain ⟨a, ha⟩ : ∃ a : Nat, n % 16 = a := ⟨(n % 16).toNat, by omega⟩
  have HA := Lib.hid ha
  have ha16 : a < 16 := by omega
  clear hn hm hkey hk2 hO hb1 hb2 ha
  go_enter Try.func8, Try.ntmps8
  go_wp2_with fail
  refine (bring_spec n 16 (by omega) (by omega) HN.out w).mono ?_
  rintro r w1 ⟨rfl, rfl⟩
  rw [HA.out]
  go_wp2_with fail
  obtain ⟨T, hT⟩ : ∃ T : Nat, IntKind.u64.wrap n = T := ⟨(IntKind.u64.wrap n).toNat, by rw [IntKind.wrap_u64]; omega⟩
  have HT2 : Hid (T < 18446744073709551616) := by
    show _ < _
    rw [IntKind.wrap_u64] at hT
    omega
  have HT := Lib.hid hT
  obtain ⟨kk, hkk⟩ : ∃ kk : Nat, 1 + (a : Int) = kk := ⟨1 + a, by omega⟩
  rw [hT, hkk]
  have hk1 : 1 ≤ kk := by omega
  have hk16 : kk ≤ 16 := by omega
  clear hT hkk ha16 HA
  refine (stocked_spec (n := kk) (objs := 16) (key := key) (turn := T) H0.out hk16 (by omega) (by omega) HKEY.out).mono ?_
  rintro r w2 ⟨b0, b1, mk, hmk, rfl, h2⟩
  have hg0 := good_stG (n := kk) (objs := 16) (key := key) (turn := T) hk16 (by omega) (by omega) HT2.out
  obtain ⟨g0, hgg⟩ : ∃ g0, stG kk key 16 T = g0 := ⟨_, rfl⟩
  rw [hgg] at h2 hg0
  have HG0 := Lib.hid hg0
  clear hgg hg0
  have h3 := h2.new (.cells #[.int .i64 1, .int .i64 1, .int .i64 16, .int .i64 0, .int .i64 0, .int .u64 key] 24)
  obtain ⟨cb, hcb⟩ : ∃ cb, w2.heap.size = cb := ⟨_, rfl⟩
  rw [hcb] at h3
  have h3 : Own W (chB cb 1 1 16 0 0 key :: _) _ := h3
  have H3 := Lib.hid h3
  clear h2 h3
  unfold cV chV
  go_wp2_with fail
  obtain ⟨wa, hwa⟩ : ∃ wa, w2.alloc (.cells #[.int .i64 1, .int .i64 1, .int .i64 16, .int .i64 0, .int .i64 0, .int .u64 key] 24) = wa := ⟨_, rfl⟩
  rw [hwa] at H3 ⊢
  clear hwa hcb h3
  refine (bring_spec many kk (by omega) (by omega) HM.out wa).mono ?_
  rintro r w3 ⟨rfl, rfl⟩
  obtain ⟨hb1, hb2⟩ := emod_bd many kk (by omega)
  obtain ⟨q, hq⟩ : ∃ q : Nat, many % (kk : Int) = q := ⟨(many % (kk : Int)).toNat, by omega⟩
  rw [hq]
  have hq1 : q < kk := by omega
  clear hb1 hb2 hq HM H0
  go_wp2_with fail
  obtain ⟨tk, htk⟩ : ∃ tk : Nat, 1 + (q : Int) = tk := ⟨1 + q, by omega⟩
  rw [htk]
  have htk1 : tk ≤ kk := by omega
  have htk0 : 1 ≤ tk := by omega
  clear htk hq1
  go_loopw [11] (fun iv wr => ∃ (i k' : Nat) (g : List Nat), iv = .int .i64 i ∧ i ≤ tk ∧ k' ≤ 100 + 4 * i ∧ Hid (Good 16 key g (upL kk i) ((T + i) % 18446744073709551616)) ∧ Own W (chB cb 1 1 16 0 0 key :: mB b0 b1 (12 + 16) k' :: wB b1 g :: m) wr) (fun iv _ => tk - (intOf iv).toNat)
  case atStart => exact ⟨0, mk, g0, rfl, by omega, by omega, (by show Good _ _ _ _ _; rw [Nat.add_zero, Nat.mod_eq_of_lt HT2.out]; exact HG0.out), H3.out⟩
  case round =>
    clear H3 HG0
    obtain ⟨i, k', g, rfl, hi, hk', HG, hr⟩ := hrel
    obtain ⟨y0, y1, y2, y3, y4, y5⟩ := box6 hr
    by_cases hlt : i < tk
    · have hlti : (i : Int) < tk := by omega
      have HR := Lib.hid hr
      clear hr
      have hgi := HG.out
      rw [upL_cons (show i < kk by omega)] at hgi
      obtain ⟨t4, g', hF, e1, e2, hg'⟩ := alloc4 hgi (by omega)
      have HF := Lib.hid hF
      have HE := Lib.hid e1
      have HE2 := Lib.hid e2
      have HG' := Lib.hid hg'
      have HL := Lib.hid hgi.len
      clear hF e1 e2 hg' hgi HG
      go_wp2_with fail
      refine (thr4 (HR.out.perm (li_p2 _ _ _ _)) (by omega) (by omega) HKEY.out HL.out HF.out HE.out (by omega)).mono ?_
      rintro r w4 ⟨k2, hk2, rfl, h4⟩
      clear y0 y1 y2 y3 y4 y5
      obtain ⟨j1, c1, p1, en1, wa1, s1, o1, hh1, tt1, ff1, kk1, nn1, la1, ma1, ds1, ba1, fo1⟩ := t4
      obtain rfl : en1 = 1 := HE.out
      obtain rfl : o1 = (i : Int) := HE2.out
      clear HE HE2 HF
      simp only [TaskP.v]
      have HN4 := Lib.hid (h4.new (tB 0 {}).2)
      have HON := Lib.hid (tB_ones ⟨j1, c1, p1, 1, wa1, s1, i, hh1, tt1, ff1, kk1, nn1, la1, ma1, ds1, ba1, fo1⟩)
      clear h4
      go_wp2_with (first
        | (refine wpList_storeBox (t := 58) rfl _ _ rfl rfl rfl tB_size HN4.out rfl HON.out ?_; intro wS hS; have HS := Lib.hid hS; obtain ⟨y0, y1, y2, y3, y4, y5⟩ := box6 hS.skip.skip.skip; clear hS))
      refine (lst (HS.out.perm (li_p2 _ _ _ _)) (by omega) (by omega) HKEY.out HG'.out).mono ?_
      rintro r w5 ⟨A, cA, bs, rfl, -, h5⟩
      have h6 : Own W (tB w4.heap.size ⟨j1, c1, p1, 1, wa1, s1, i, hh1, tt1, ff1, kk1, nn1, la1, ma1, ds1, ba1, fo1⟩ :: chB cb 1 1 16 0 0 key :: m) w5 := h5.dropL.skip.skip
      obtain ⟨⟨t0, t1, t2, t3, t4, t5, t6, t7, t8, t9, t10, t11, t12, t13, t14, t15, t16⟩, -⟩ := box_t h6
      rw [upL_len]
      clear t0 t1 t2 t4 t5 t7 t8 t9 t10 t11 t12 t13 t14 t15 t16 h6 y0 y1 y2 y3 y4 y5
      have H5 := Lib.hid h5
      have hne := turn_ne (i := i) HT.out HT2.out
      clear h5 HS HN4 HON
      go_wp2_with fail
      exact ⟨⟨i + 1, k2, g', by go_num, by omega, by omega, (by show Good _ _ _ _ _; rw [← turn_up]; exact HG'.out), (H5.out.dropL.perm (al_p1 _ _ _ _ _)).skip⟩, by simp [intOf]; omega⟩
    · obtain rfl : i = tk := by omega
      have hlti : ¬ (i : Int) < i := by omega
      have HR := Lib.hid hr
      clear hr y0 y1 y2 y3 y4 y5
      go_wp2_with fail
      go_loopw [17] (fun iv wr => ∃ (p : Int) (j k2 T2 : Nat) (g : List Nat), iv = .int .i64 p ∧ p + 1 = (j : Int) ∧ j ≤ i ∧ k2 + 4 * j ≤ 1000 + 4 * i ∧ Hid (Good 16 key g (upL kk j) T2) ∧ Own W (chB cb 1 1 16 0 0 key :: mB b0 b1 (12 + 16) k2 :: wB b1 g :: m) wr) (fun iv _ => (intOf iv + 1).toNat)
      case atStart => exact ⟨(i : Int) - 1, i, k', _, g, by go_num, by omega, by omega, by omega, HG, HR.out⟩
      case round =>
        clear HR HG
        obtain ⟨p, j, k2, T2, g2, rfl, hpj, hji, hk2, HG, hr⟩ := hrel
        by_cases hp : p < 0
        · have HR := Lib.hid hr
          clear hr
          go_wp2_with fail
          refine (works_in HR.out).mono ?_
          rintro r w6 ⟨rfl, h6⟩
          go_wp2_with fail
          go_ret
          exact ⟨rfl, h6.skip.skip.skip⟩
        · obtain ⟨j, rfl⟩ : ∃ n, j = n + 1 := ⟨j - 1, by omega⟩
          obtain rfl : p = (j : Int) := by omega
          obtain ⟨t4, g', hF, e1, hg'⟩ := free4 (o := (j : Int)) HG.out (by omega) (by omega) (fun hm => by have := mem_upL.1 hm; omega)
          rw [← upL_cons (show j < kk by omega)] at hg'
          obtain ⟨y0, y1, y2, y3, y4, y5⟩ := box6 hr
          have HR := Lib.hid hr
          have HF := Lib.hid hF
          have HE := Lib.hid e1
          have HG' := Lib.hid hg'
          have HL := Lib.hid HG.out.len
          clear hF e1 hg' HG hr
          go_wp2_with fail
          refine (thr4 (HR.out.perm (li_p2 _ _ _ _)) (by omega) (by omega) HKEY.out HL.out HF.out HE.out (by omega)).mono ?_
          rintro r w4 ⟨k3, hk3, rfl, h4⟩
          clear y0 y1 y2 y3 y4 y5
          obtain ⟨j1, c1, p1, en1, wa1, s1, o1, hh1, tt1, ff1, kk1, nn1, la1, ma1, ds1, ba1, fo1⟩ := t4
          obtain rfl : en1 = 1 := HE.out
          clear HE HF
          simp only [TaskP.v]
          have HN4 := Lib.hid (h4.new (tB 0 {}).2)
          have HON := Lib.hid (tB_ones ⟨j1, c1, p1, 1, wa1, s1, o1, hh1, tt1, ff1, kk1, nn1, la1, ma1, ds1, ba1, fo1⟩)
          clear h4
          go_wp2_with (first
            | (refine wpList_storeBox (t := 58) rfl _ _ rfl rfl rfl tB_size HN4.out rfl HON.out ?_; intro wS hS; have HS := Lib.hid hS; obtain ⟨y0, y1, y2, y3, y4, y5⟩ := box6 hS.skip.skip.skip; clear hS))
          refine (lst (HS.out.perm (li_p2 _ _ _ _)) (by omega) (by omega) HKEY.out HG'.out).mono ?_
          rintro r w5 ⟨A, cA, bs, rfl, hsrc, h5⟩
          have h6 : Own W (tB w4.heap.size ⟨j1, c1, p1, 1, wa1, s1, o1, hh1, tt1, ff1, kk1, nn1, la1, ma1, ds1, ba1, fo1⟩ :: chB cb 1 1 16 0 0 key :: m) w5 := h5.dropL.skip.skip
          obtain ⟨⟨t0, t1, t2, t3, t4, t5, t6, t7, t8, t9, t10, t11, t12, t13, t14, t15, t16⟩, -⟩ := box_t h6
          have hs5 := hsrc w5 _ h5
          simp only at hs5
          rw [upL_len] at hs5
          rw [upL_len]
          have hcell : ∃ B o, A = some ⟨B, o, none⟩ ∧ w5.cell? ⟨B, o, none⟩ = some (.int .i64 (j : Int)) := first_cell hs5 (by simp [upL_cons (show j < kk by omega)])
          obtain ⟨B, o, rfl, q0⟩ := hcell
          clear t0 t1 t2 t4 t5 t6 t7 t8 t9 t10 t11 t12 t13 t14 t15 t16 h6 y0 y1 y2 y3 y4 y5 hsrc hs5
          have H5 := Lib.hid h5
          have hlen : ((kk - j : Nat) : Int) = (kk : Int) - j := by omega
          have hpos : 0 < kk - j := by omega
          clear h5 HS HN4 HON
          go_wp2_with fail
          exact ⟨⟨(j : Int) - 1, j, k3, _, g', by go_num, by omega, by omega, by omega, HG', (H5.out.dropL.perm (al_p1 _ _ _ _ _)).skip⟩, by simp [intOf] <;> omega⟩
end
end Go.Proofs.Ytigakendeghoaaa.Fast
