import Derived.Test.YtljcndcmdphmgaaZm11
/-
  wainscotlaw08.ZoneBack answers true: the walk.
-/
namespace Go.Proofs.Ytljcndcmdphmgaa
open Go.RowKit
/-- the first processors are drained -/
def Drained (X : List (List Int)) (c : Nat) : Prop := ∀ i, i < c → X[i]? = some []
theorem drained_step {X : List (List Int)} {c : Nat} (hc : c < X.length) (h : Drained X c) : Drained (X.set c []) (c + 1) := by
  intro i hi
  by_cases he : i = c
  · subst he
    rw [List.getElem?_set_self hc]
  · rw [List.getElem?_set_ne (by omega)]
    exact h i (by omega)
theorem drained_all {X : List (List Int)} {c : Nat} (hc : X.length = c) (h : Drained X c) : X.flatten = [] := by
  rw [List.flatten_eq_nil_iff]
  intro l hl
  obtain ⟨i, hi, rfl⟩ := List.mem_iff_getElem.1 hl
  have := h i (by omega)
  rw [List.getElem?_eq_getElem hi] at this
  exact Option.some.inj this
theorem near_six {L : List Pg} {X : List (List Int)} {f : Int → Option Int} {out : List (Int × Int)} {N : Nat} (h : ZInv L X f out N) (c : Int) : (nList X c).length ≤ 6 := by
  unfold nList
  cases hx : xAt X c with
  | none => simp
  | some xs => exact h.six xs (List.mem_of_getElem? (xAt_some hx).2)
theorem near_set {X : List (List Int)} {c : Nat} (hc : c < X.length) : (nList (X.set c []) c) = [] := by
  unfold nList xAt
  rw [if_pos (by omega), Int.toNat_natCast, List.getElem?_set_self hc]
  rfl
theorem zbinv_whole {L : List Pg} (h : BInv L []) : L = freshL L.length := by
  obtain ⟨bs, hT, hN, hp⟩ := h
  have : castL (outPl 0 bs) = [] := by simpa using hp.symm.eq_nil
  have h0 : outPl 0 bs = [] := by
    cases h : outPl 0 bs with
    | nil => rfl
    | cons a b => rw [h] at this; simp [castL] at this
  exact whole_fresh hT (outPl_kind bs 0 hT.2 h0) hN
theorem zinv_whole {L : List Pg} {X : List (List Int)} {f : Int → Option Int} {N : Nat} (h : ZInv L X f [] N) (hf : X.flatten = []) : L = freshL L.length ∧ zLeftOf L X = N := by
  refine ⟨?_, by have := zleft_sum h; simpa using this⟩
  have hb := h.c.b
  unfold nearL at hb
  rw [hf] at hb
  exact zbinv_whole hb
/-- what is out, still -/
def ZB (zb : Nat) (L : List Pg) (X : List (List Int)) (N : Nat) (c : Nat) (zs : List (Nat × Obj)) : Prop := ∃ f, ZO zb L X f 60 zs ∧ ZInv L X f [] N ∧ X.length = 3 ∧ Drained X c
namespace zoneBack
set_option maxRecDepth 100000 in
set_option maxHeartbeats 4000000 in
theorem walk {W w : World} {m : List (Nat × Obj)} (h : Own W m w) (pages who : Int) (hp : (Lit.int .i64 pages).wf = true) (ht : (Lit.int .i64 who).wf = true) (A : Option Addr) (len cap : Nat) (hlc : len ≤ cap) (hcap : cap ≤ maxLen) (hat : FlatAt W [some .i64, some .i64, some .i64, some .i64] A len) :
    Calls Try.prog 11 #[.int .i64 pages, .slice A len cap, .int .i64 who] w fun e w' => e = .returned (.bool true) ∧ Own W m w' := by
  have hpb := emod_bd pages 150 (by omega)
  obtain ⟨N, hN⟩ : ∃ N : Nat, pages % 150 = N := ⟨(pages % 150).toNat, by omega⟩
  have hN3 : N < 150 := by omega
  have HN := Lib.hid hN
  have hpl := fun w (h : Own W m w) => played8_spec h pages hp A len cap hlc hcap hat
  rw [hN, Int.toNat_natCast] at hpl
  have HPL := Lib.hid hpl
  clear hat ht hN hpb hpl
  go_enter Try.func11, Try.ntmps11
  go_wp2_with fail
  refine (law08.works_spec h).mono ?_
  rintro e w1 ⟨rfl, h1⟩
  go_wp2_with fail
  refine (HPL.out w1 h1).mono ?_
  rintro e w2 ⟨zb, zs, v, outl, bo, rfl, HZ, ho60, HB, h2⟩
  obtain ⟨A1, c1, rfl, hc1, -⟩ := SlO.slice HB.out
  have HL := Lib.hid (show outl.length = outl.length from rfl)
  obtain ⟨q, hq⟩ : ∃ q, outl.length = q := ⟨_, rfl⟩
  have HQ := Lib.hid hq
  rw [hq] at ho60 hc1 ⊢
  clear hq h1 h HL
  go_wp2_with fail
  go_loopw [9] (fun i wr => ∃ (k : Nat) (zs : List (Nat × Obj)), i = .int .i64 k ∧ k ≤ q ∧ Hid (ZAt zb (outl.drop k) (1 + N) 60 zs) ∧ Own W (bo ++ (zs ++ m)) wr) (fun i _ => q - (intOf i).toNat)
  case atStart => exact ⟨0, zs, rfl, by omega, HZ, h2⟩
  case round =>
    clear h2 HZ
    obtain ⟨k, zs, rfl, hk, HZ, hr⟩ := hrel
    by_cases hlt : k < q
    · have hlti : (k : Int) < q := by omega
      obtain ⟨x, hx⟩ : ∃ x, outl[k]? = some x := ⟨_, List.getElem?_eq_getElem (by have := HQ.out; omega)⟩
      obtain ⟨g, cap', cur, hv, -, -⟩ := SlO.form HB.out (by have := HQ.out; omega)
      rw [HQ.out] at hv
      simp only [Value.slice.injEq] at hv
      obtain ⟨rfl, -, rfl⟩ := hv
      obtain ⟨cx, -, -, -⟩ := pr_cells HB.out hr (by rw [HQ.out]) rfl hx
      obtain ⟨T, hT⟩ : ∃ T, IntKind.i64.wrap (who + (k : Int)) = T := ⟨_, rfl⟩
      have htw := wrap64_wf (who + (k : Int))
      rw [← show IntKind.i64.wrap (who + (k : Int)) = wrap64 (who + (k : Int)) from IntWalk.i64_left _] at htw
      have HTT := Lib.hid hT
      rw [hT] at htw
      have HTW := Lib.hid htw
      clear htw hT
      have b3 := emod_bd T 3 (by omega)
      have hd0 : (outl.drop k)[0]? = some x := by rw [List.getElem?_drop]; exact hx
      have hdr : outl.drop k = x :: outl.drop (k + 1) := by
        obtain ⟨hkl, rfl⟩ := List.getElem?_eq_some_iff.1 hx
        exact List.drop_eq_getElem_cons hkl
      have HD0 := Lib.hid hd0
      have HDR := Lib.hid hdr
      have HRR := Lib.hid hr
      have HX := Lib.hid hx
      clear hx hd0 hdr hr
      go_wp2_with fail
      go_region_held3 (fun w' => w'.cell? ⟨g, k * 2, none⟩ = some (.int .i64 x.1)) (first | assumption | go_keep)
        (first | (go_at_call 23; rw [HTT.out]; refine (bring_spec T 3 (by omega) (by omega) HTW.out _).mono ?_; rintro e w' ⟨rfl, rfl⟩) |
          (go_at_call 43; refine (zat_free HRR.out.drew.swap HZ.out (T % 3) b3.1 b3.2 HD0.out).mono ?_; rintro e w4 ⟨zs4, rfl, HZ4, h4⟩; obtain ⟨cx, -, -, -⟩ := pr_cells HB.out h4.swap (by rw [HQ.out]) rfl HX.out))
      go_wp2_with fail
      exact ⟨⟨k + 1, zs4, by go_num, by omega, HZ4.out _ (by rw [HDR.out]), h4.swap⟩, by simp [intOf]; omega⟩
    · obtain rfl : k = q := by omega
      have hlti : ¬ (k : Int) < k := by omega
      have hz := HZ.out
      rw [List.drop_of_length_le (by have := HQ.out; omega)] at hz
      obtain ⟨L, X, f, ho, hi, h3⟩ := hz
      have HZB : Hid (ZB zb L X (1 + N) 0 zs) := ⟨f, ho, hi, h3, fun i hi => by omega⟩
      have h4 := hr.dropL
      clear hr HZ ho hi h3
      go_wp2_with fail
      go_loopw [10] (fun i wr => ∃ (c : Nat) (L : List Pg) (X : List (List Int)) (zs : List (Nat × Obj)), i = .int .i64 c ∧ c ≤ 3 ∧ Hid (ZB zb L X (1 + N) c zs) ∧ Own W (zs ++ m) wr) (fun i _ => 3 - (intOf i).toNat)
      case atStart => exact ⟨0, L, X, zs, rfl, by omega, HZB, h4⟩
      case round =>
        clear h4 HZB
        obtain ⟨c, L, X, zs, rfl, hc, HZB, hr⟩ := hrel
        obtain ⟨f, ho, hi, h3, hd⟩ := HZB.out
        have HO := Lib.hid ho
        have HI := Lib.hid hi
        have H3 := Lib.hid h3
        have HD := Lib.hid hd
        clear ho hi h3 hd HZB
        by_cases hlt : c < 3
        · have hlti : (c : Int) < 3 := by omega
          obtain ⟨z, hz⟩ : ∃ z, (nList X c).length = z := ⟨_, rfl⟩
          have hz6 : z ≤ 6 := by have := near_six HI.out c; omega
          have hzi : ¬ (6 : Int) < (z : Int) := by omega
          have HZL := Lib.hid hz
          clear hz
          go_wp2_with fail
          refine (znear_spec hr HO.out c).mono ?_
          rintro e w5 ⟨rfl, h5⟩
          rw [HZL.out]
          go_wp2_with fail
          refine (zdrain_spec h5 HO.out c).mono ?_
          rintro e w6 ⟨e6, L6, X6, zs6, rfl, HD6, HZ6, h6⟩
          obtain ⟨rfl, hX6, hi6⟩ := zinv_drain HI.out (ask3 H3.out (by omega) (by omega)) HD6.out
          rw [Int.toNat_natCast] at hX6
          have hn6 : nList X6 c = [] := by rw [hX6]; exact near_set (by rw [H3.out]; exact hlt)
          have HB6 : Hid (ZB zb L6 X6 (1 + N) (c + 1) zs6) := ⟨f, HZ6.out, hi6, by rw [hX6, List.length_set]; exact H3.out, by rw [hX6]; exact drained_step (by rw [H3.out]; exact hlt) HD.out⟩
          have HN6 := Lib.hid hn6
          clear hX6 hi6 hn6
          go_wp2_with fail
          refine (znear_spec h6 HZ6.out c).mono ?_
          rintro e w7 ⟨rfl, h7⟩
          rw [HN6.out]
          go_wp2_with fail
          exact ⟨⟨c + 1, L6, X6, zs6, by go_num, by omega, HB6, h7⟩, by simp [intOf]; omega⟩
        · obtain rfl : c = 3 := by omega
          obtain ⟨g1, g2⟩ := zinv_whole HI.out (drained_all H3.out HD.out)
          have hG2 : pgFree L + (nearAll X : Nat) = (1 + N : Nat) := g2
          have hd := decide_eq_true g1
          have HDD := Lib.hid hd
          have HG2 := Lib.hid hG2
          clear g1 g2 hG2 hd
          go_wp2_with fail
          refine (zwhole_spec hr HO.out).mono ?_
          rintro e w5 ⟨rfl, h5⟩
          rw [HDD.out]
          go_wp2_with fail
          refine (zleft_spec h5 HO.out).mono ?_
          rintro e w6 ⟨rfl, h6⟩
          rw [HG2.out, show ((1 + N : Nat) : Int) = 1 + (N : Int) from by omega]
          go_wp2_with fail
          refine (bring_spec pages 150 (by omega) (by omega) hp _).mono ?_
          rintro e w' ⟨rfl, rfl⟩
          rw [HN.out]
          go_wp2_with fail
          go_ret
          exact ⟨rfl, h6.dropL⟩
end zoneBack
end Go.Proofs.Ytljcndcmdphmgaa
