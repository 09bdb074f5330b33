import Derived.Test.YtljcndcmdphmgaaZm9
import Derived.BigQuiet
/-
  The reference's zones: their blocks; contracts: has, New, back, near, Near. No condition.
-/
namespace Go.Proofs.Ytljcndcmdphmgaa
open Go.RowKit
attribute [local go_sem ↓] Go.wp_at_zero Go.wp_at_succ
def qBlk (qb rb nb : Nat) : Nat × Obj := (qb, .cells #[.pointer (some ⟨rb, 0, none⟩), .pointer (some ⟨nb, 0, none⟩)] 117)
structure QIs (qb rb nb nl : Nat) (L : List Pg) (X : List (List Int)) (bl : List (Nat × Obj)) (Ln : List NL) (zs : List (Nat × Obj)) : Prop where
  bud : RdO rb L bl
  nr : XsAre 6 Ln X
  tab : ∃ bs, Tab L bs
  l1 : 1 ≤ L.length
  l2 : L.length ≤ 1024
  x1 : 1 ≤ X.length
  xb : ∀ xs ∈ X, ∀ p ∈ xs, 0 ≤ p ∧ p < 1024
  eq : zs = qBlk qb rb nb :: (bl ++ nrBlocks 134 nb nl 6 Ln)
/-- a zone of the reference: its blocks -/
def QO (qb : Nat) (L : List Pg) (X : List (List Int)) (zs : List (Nat × Obj)) : Prop := ∃ rb nb nl bl Ln, QIs qb rb nb nl L X bl Ln zs
theorem q_bud {α : Type} (x : α) (bl nr m : List α) : ((x :: (bl ++ nr)) ++ m).Perm (bl ++ (x :: (nr ++ m))) := by
  simp only [List.cons_append, List.append_assoc]
  exact (List.perm_middle (a := x) (l₁ := bl) (l₂ := nr ++ m)).symm
theorem q_near {α : Type} (x : α) (bl nr m : List α) : ((x :: (bl ++ nr)) ++ m).Perm (nr ++ (x :: (bl ++ m))) := by
  simp only [List.cons_append, List.append_assoc]
  refine (List.Perm.cons x (perm_swap _ _ _)).trans ?_
  exact (List.perm_middle (a := x) (l₁ := nr) (l₂ := bl ++ m)).symm
section
variable {W w : World} {m zs : List (Nat × Obj)} {qb rb nb nl : Nat} {L : List Pg} {X : List (List Int)} {bl : List (Nat × Obj)} {Ln : List NL}
theorem qcells {t : List (Nat × Obj)} (h : Own W t w) (hm : qBlk qb rb nb ∈ t) : w.cell? ⟨qb, 0, none⟩ = some (.pointer (some ⟨rb, 0, none⟩)) ∧ w.cell? ⟨qb, 1, none⟩ = some (.pointer (some ⟨nb, 0, none⟩)) :=
  ⟨h.cell hm 0, h.cell hm 1⟩
theorem QIs.own (hi : QIs qb rb nb nl L X bl Ln zs) (h : Own W (zs ++ m) w) : Own W ((qBlk qb rb nb :: (bl ++ nrBlocks 134 nb nl 6 Ln)) ++ m) w := by
  rw [hi.eq] at h
  exact h
theorem QIs.len (hi : QIs qb rb nb nl L X bl Ln zs) : Ln.length = X.length := by
  have := congrArg List.length hi.nr.2
  rwa [List.length_map] at this
theorem QIs.at_ (hi : QIs qb rb nb nl L X bl Ln zs) (h : Own W (zs ++ m) w) {i : Nat} {xs : List Int} (hx : X[i]? = some xs) : ∃ A c, w.cell? ⟨nl, i, none⟩ = some (.slice A xs.length c) ∧ xs.length ≤ 64 := by
  rw [← hi.nr.2, List.getElem?_map] at hx
  obtain ⟨y, hy, rfl⟩ := Option.map_eq_some_iff.1 hx
  have hc := nrCell ((hi.own h).perm (q_near _ _ _ _)) hy
  obtain ⟨hok, h64⟩ := hi.nr.1.at_ hy
  obtain ⟨A, c, hv, -, -⟩ := SlO.slice (show IntsOwn true y.v y.xs y.bs from hok)
  rw [hv] at hc
  exact ⟨A, c, hc, h64⟩
theorem q_c8 (hi : QIs qb rb nb nl L X bl Ln zs) : X.length ≤ 8 := by
  have h1 := hi.nr.1.1
  have h2 := hi.len
  omega
set_option maxHeartbeats 400000 in
theorem qhas_spec (h : Own W (zs ++ m) w) (hq : QO qb L X zs) (cpu : Int) :
    Calls Try.prog 90 #[.pointer (some ⟨qb, 0, none⟩), .int .i64 cpu] w fun e w' => e = .returned (.bool (decide (askE X.length cpu = 0))) ∧ w = w' := by
  obtain ⟨rb, nb, nl, bl, Ln, hi⟩ := hq
  have ho := hi.own h
  obtain ⟨c0, c1⟩ := qcells ho List.mem_cons_self
  have c2 := nrHead (ho.perm (q_near _ _ _ _))
  rw [hi.len] at c2
  obtain ⟨C, hC⟩ : ∃ C, X.length = C := ⟨_, rfl⟩
  rw [hC] at c2 ⊢
  clear hC hi ho h
  have hcase : (cpu < 0) ∨ (0 ≤ cpu ∧ (C : Int) ≤ cpu) ∨ (0 ≤ cpu ∧ cpu < (C : Int)) := by omega
  rcases hcase with h1 | ⟨h1, h2⟩ | ⟨h1, h2⟩
  · have he : decide (askE C cpu = 0) = false := by unfold askE; rw [if_pos (by omega)]; rfl
    rw [he]
    clear he
    go_enter Try.func90, Try.ntmps90
    go_wp2_with fail
    go_ret
    exact ⟨rfl, rfl⟩
  · have he : decide (askE C cpu = 0) = false := by unfold askE; rw [if_pos (by omega)]; rfl
    rw [he]
    clear he
    go_enter Try.func90, Try.ntmps90
    go_wp2_with fail
    go_ret
    exact ⟨by first | rfl | (simp; done) | (simp; omega), rfl⟩
  · have he : decide (askE C cpu = 0) = true := by unfold askE; rw [if_neg (by omega)]; rfl
    rw [he]
    clear he
    go_enter Try.func90, Try.ntmps90
    go_wp2_with fail
    go_ret
    exact ⟨by first | rfl | (simp; done) | (simp; omega), rfl⟩
set_option maxHeartbeats 1000000 in
theorem qnear_spec (h : Own W (zs ++ m) w) (hq : QO qb L X zs) :
    Calls Try.prog 92 #[.pointer (some ⟨qb, 0, none⟩)] w fun e w' => e = .returned (.int .i64 (nearAll X : Nat)) ∧ Own W (zs ++ m) w' := by
  obtain ⟨rb, nb, nl, bl, Ln, hi⟩ := hq
  have hc8 := q_c8 hi
  obtain ⟨C, hC⟩ : ∃ C, X.length = C := ⟨_, rfl⟩
  have hall : nearTo X C = nearAll X := by unfold nearTo nearAll; rw [← hC, List.take_length]
  have HALL := Lib.hid hall
  have HC := Lib.hid hC
  have HI := Lib.hid hi
  rw [hC] at hc8
  clear hall hC hi
  go_enter Try.func92, Try.ntmps92
  go_wp2_with fail
  go_loopw [3, 4] (fun nv iv wr => ∃ c : Nat, iv = .int .i64 c ∧ c ≤ C ∧ Hid (nearTo X c ≤ c * 64) ∧ nv = .int .i64 (nearTo X c : Nat) ∧ Own W (zs ++ m) wr) (fun _ iv _ => C - (intOf iv).toNat)
  case atStart => exact ⟨0, rfl, by omega, by simp [Hid, nearTo], by simp [nearTo], h⟩
  case round =>
    clear h
    obtain ⟨c, rfl, hc, HN, rfl, hr⟩ := hrel
    have ho := HI.out.own hr
    obtain ⟨c0, c1⟩ := qcells ho List.mem_cons_self
    have c2 := nrHead (ho.perm (q_near _ _ _ _))
    rw [HI.out.len, HC.out] at c2
    obtain ⟨K, hK⟩ : ∃ K, nearTo X c = K := ⟨_, rfl⟩
    have hKb : K ≤ 512 := by have := HN.out; rw [hK] at this; omega
    have HK := Lib.hid hK
    rw [hK]
    clear hK ho
    by_cases hlt : c < C
    · have hlti : (c : Int) < C := by omega
      obtain ⟨xs, hx⟩ : ∃ xs, X[c]? = some xs := ⟨_, List.getElem?_eq_getElem (by have := HC.out; omega)⟩
      have hstep := nearTo_step hx
      obtain ⟨A, cp, c3, hx64⟩ := HI.out.at_ hr hx
      obtain ⟨z, hz⟩ : ∃ z, xs.length = z := ⟨_, rfl⟩
      rw [hz] at hstep c3 hx64
      rw [HK.out] at hstep
      have HST := Lib.hid hstep
      have HNN : Hid (nearTo X (c + 1) ≤ (c + 1) * 64) := by
        have := HN.out
        rw [HK.out] at this
        show nearTo X (c + 1) ≤ (c + 1) * 64
        omega
      clear hstep hz hx
      go_wp2_with fail
      exact ⟨⟨c + 1, by go_num, by omega, HNN, by rw [HST.out]; go_num, hr⟩, by simp [intOf]; omega⟩
    · obtain rfl : c = C := by omega
      have hlti : ¬ (c : Int) < c := by omega
      go_wp2_with fail
      go_ret
      exact ⟨by rw [← HALL.out, HK.out]; rfl, hr⟩
set_option maxHeartbeats 1000000 in
theorem qNear_spec (h : Own W (zs ++ m) w) (hq : QO qb L X zs) (cpu : Int) :
    Calls Try.prog 75 #[.pointer (some ⟨qb, 0, none⟩), .int .i64 cpu] w fun e w' => e = .returned (.int .i64 (nList X cpu).length) ∧ Own W (zs ++ m) w' := by
  have hask := qhas_spec h hq cpu
  have HASK := Lib.hid hask
  obtain ⟨rb, nb, nl, bl, Ln, hi⟩ := hq
  rcases askE_cases X.length cpu with h9 | ⟨h9, hc0, hc1⟩
  · have hn : nList X cpu = [] := by
      unfold nList xAt
      unfold askE at h9
      split at h9
      · split
        · rw [List.getElem?_eq_none (by omega)]; rfl
        · rfl
      · omega
    rw [hn]
    rw [h9] at HASK
    clear h9 hask hn hi
    go_enter Try.func75, Try.ntmps75
    go_wp2_with fail
    refine HASK.out.mono ?_
    rintro e w1 ⟨rfl, rfl⟩
    go_wp2_with fail
    go_ret
    exact ⟨rfl, h⟩
  · rw [h9] at HASK
    obtain ⟨i, rfl⟩ : ∃ i : Nat, cpu = i := ⟨cpu.toNat, by omega⟩
    obtain ⟨xs, hx⟩ : ∃ xs, X[i]? = some xs := ⟨_, List.getElem?_eq_getElem (by omega)⟩
    have hn : nList X (i : Int) = xs := by
      unfold nList xAt
      rw [if_pos (by omega), Int.toNat_natCast, hx]
      rfl
    rw [hn]
    have ho := hi.own h
    obtain ⟨c0, c1⟩ := qcells ho List.mem_cons_self
    have c2 := nrHead (ho.perm (q_near _ _ _ _))
    obtain ⟨A, cp, c3, hx64⟩ := hi.at_ h hx
    rw [hi.len] at c2
    obtain ⟨C, hC⟩ : ∃ C, X.length = C := ⟨_, rfl⟩
    rw [hC] at c2 hc1
    obtain ⟨z, hz⟩ : ∃ z, xs.length = z := ⟨_, rfl⟩
    rw [hz] at c3 ⊢
    clear h9 hask hn hi hx hz hC ho
    go_enter Try.func75, Try.ntmps75
    go_wp2_with fail
    refine HASK.out.mono ?_
    rintro e w1 ⟨rfl, rfl⟩
    go_wp2_with fail
    go_ret
    exact ⟨rfl, h⟩
theorem qnew_ok (h : Own W m w) (C N : Nat) (c1 : 1 ≤ C) (c8 : C ≤ 8) (n1 : 1 ≤ N) (n2 : N ≤ 1024) :
    Calls Try.prog 36 #[.int .i64 C, .int .i64 N] w fun e w' => ∃ qb zs, e = .returned (.tuple #[.pointer (some ⟨qb, 0, none⟩), .int .i64 0]) ∧ QO qb (freshL N) (List.replicate C []) zs ∧ Own W (zs ++ m) w' := by
  go_enter Try.func36, Try.ntmps36
  go_wp2_with fail
  refine (nref.new_ok h C 6 (by omega) (by omega) (by omega) (by omega)).mono ?_
  rintro e w1 ⟨nb, nl, rfl, h1⟩
  rw [Int.toNat_natCast] at h1
  go_wp2_with fail
  refine (rnew_ok h1 N n1 n2).mono ?_
  rintro e w2 ⟨rb, bl, rfl, hb, h2⟩
  have HB := Lib.hid hb
  clear hb
  go_wp2_with fail
  go_ret2
  refine ⟨_, _, rfl, ⟨rb, nb, nl, bl, List.replicate C nlNil, ⟨HB.out, xsNone C c8 (by omega) (by omega), ⟨_, fresh_tab N⟩, by rw [fresh_len]; exact n1, by rw [fresh_len]; exact n2, by simpa using c1, fun xs hx p hp => ?_, rfl⟩⟩, ?_⟩
  · rw [List.eq_of_mem_replicate hx] at hp
    cases hp
  · have h3 := h2.new (.cells #[.pointer (some ⟨rb, 0, none⟩), .pointer (some ⟨nb, 0, none⟩)] 117)
    simpa [qBlk] using h3
set_option maxHeartbeats 400000 in
theorem qnew_bad (h : Own W m w) (C N : Int) (hn : C < 1 ∨ 8 < C ∨ N < 1 ∨ 1024 < N) :
    Calls Try.prog 36 #[.int .i64 C, .int .i64 N] w fun e w' => e = .returned (.tuple #[.pointer none, .int .i64 2]) ∧ Own W m w' := by
  by_cases hC : C < 1 ∨ 8 < C
  · have HC := Lib.hid hC
    by_cases hN : N < 1 ∨ 1024 < N
    · have HN := Lib.hid hN
      clear hn hC hN
      go_enter Try.func36, Try.ntmps36
      go_wp2_with fail
      refine (nref.new_bad C 6 (by have := HC.out; omega) w).mono ?_
      rintro e w1 ⟨rfl, rfl⟩
      go_wp2_with fail
      refine (rnew_bad N HN.out _).mono ?_
      rintro e w1 ⟨rfl, rfl⟩
      go_wp2_with fail
      go_ret2
      exact ⟨rfl, h⟩
    · obtain ⟨n, rfl⟩ : ∃ n : Nat, N = n := ⟨N.toNat, by omega⟩
      have n1 : 1 ≤ n := by omega
      have n2 : n ≤ 1024 := by omega
      clear hn hC hN
      go_enter Try.func36, Try.ntmps36
      go_wp2_with fail
      refine (nref.new_bad C 6 (by have := HC.out; omega) w).mono ?_
      rintro e w1 ⟨rfl, rfl⟩
      go_wp2_with fail
      refine (rnew_ok h n n1 n2).mono ?_
      rintro e w2 ⟨rb, bl, rfl, hb, h2⟩
      clear hb
      go_wp2_with fail
      go_ret2
      exact ⟨rfl, h2.dropL⟩
  · have hN : N < 1 ∨ 1024 < N := by omega
    have HN := Lib.hid hN
    have c1 : 1 ≤ C := by omega
    have c8 : C ≤ 8 := by omega
    clear hn hC hN
    go_enter Try.func36, Try.ntmps36
    go_wp2_with fail
    refine (nref.new_ok h C 6 c1 c8 (by omega) (by omega)).mono ?_
    rintro e w1 ⟨nb, nl, rfl, h1⟩
    go_wp2_with fail
    refine (rnew_bad N HN.out _).mono ?_
    rintro e w2 ⟨rfl, rfl⟩
    go_wp2_with fail
    go_ret2
    exact ⟨rfl, h1.dropL⟩
end
section
variable {W w : World} {M m zs : List (Nat × Obj)} {qb rb nb : Nat} {L : List Pg}
set_option maxHeartbeats 2000000 in
theorem qback_spec {ex : Bool} {bl bs : List (Nat × Obj)} {bT : List Pg} {v : Value} {l : List Int} (hm : qBlk qb rb nb ∈ M) (h : Own W (bs ++ (bl ++ M)) w) (ho : IntsOwn ex v l bs) (hb : RdO rb L bl) (hT : Tab L bT) (hL1 : 1 ≤ L.length) (hL : L.length ≤ 1024) :
    Calls Try.prog 93 #[.pointer (some ⟨qb, 0, none⟩), v] w fun e w' => ∃ bl', e = .returned (.tuple #[]) ∧ Hid (RdO rb (l.foldl freeT L) bl') ∧ Own W (bs ++ (bl' ++ M)) w' := by
  obtain ⟨A, c, rfl, hc, hcm⟩ := ho.slice
  unfold maxLen at hcm
  obtain ⟨z, hz⟩ : ∃ z, l.length = z := ⟨_, rfl⟩
  have HO := Lib.hid ho
  have HZ := Lib.hid hz
  have HB := Lib.hid hb
  have HT := Lib.hid hT
  obtain ⟨N, hN⟩ : ∃ N, L.length = N := ⟨_, rfl⟩
  have HN := Lib.hid hN
  rw [hN] at hL1 hL
  rw [hz] at hc ⊢
  clear hz ho hb hT hN
  go_enter Try.func93, Try.ntmps93
  go_wp2_with fail
  go_loopw [4] (fun iv wr => ∃ (i : Nat) (bl' : List (Nat × Obj)), iv = .int .i64 i ∧ i ≤ z ∧ Hid (RdO rb ((l.take i).foldl freeT L) bl') ∧ Own W (bs ++ (bl' ++ M)) wr) (fun iv _ => z - (intOf iv).toNat)
  case atStart => exact ⟨0, bl, rfl, by omega, HB, h⟩
  case round =>
    clear h HB
    obtain ⟨i, bl', rfl, hi, HB, hr⟩ := hrel
    by_cases hlt : i < z
    · have hlti : (i : Int) < z := by omega
      have hi0 : (0 : Int) ≤ i := by omega
      obtain ⟨x, hx⟩ : ∃ x, l[i]? = some x := ⟨_, List.getElem?_eq_getElem (by have := HZ.out; omega)⟩
      obtain ⟨g, cp, cur, hv, -⟩ := HO.out.form (by have := HZ.out; omega)
      rw [HZ.out] at hv
      simp only [Value.slice.injEq] at hv
      obtain ⟨rfl, -, rfl⟩ := hv
      have cx := SlO.cell HO.out hr (by rw [HZ.out]) (ints_get hx)
      obtain ⟨cq, -⟩ := qcells (nb := nb) (rb := rb) (qb := qb) hr (List.mem_append_right _ (List.mem_append_right _ hm))
      obtain ⟨⟨bT', hT'⟩, hl'⟩ := backs_tab (l.take i) HT.out
      have hfold : (l.take (i + 1)).foldl freeT L = freeT ((l.take i).foldl freeT L) x := by
        rw [List.take_succ_eq_append_getElem (by have := HZ.out; omega), List.foldl_append]
        have : l[i]'(by have := HZ.out; omega) = x := by
          have := (List.getElem?_eq_some_iff.1 hx).2
          exact this
        rw [this]
        rfl
      rw [HN.out] at hl'
      have HF := Lib.hid hfold
      have hfree := fun wq (h : Own W (bl' ++ (bs ++ M)) wq) => rfree_is h HB.out hT' (by rw [hl']; omega) (by rw [hl']; omega) x
      have HFR := Lib.hid hfree
      have HRS := Lib.hid hr.swap
      have HX := Lib.hid hx
      clear hfold hx hT' hl' hfree hr
      go_wp2_with fail
      go_region_held3 (fun w' => w'.cell? ⟨qb, 0, none⟩ = some (.pointer (some ⟨rb, 0, none⟩)) ∧ w'.cell? ⟨g, i, none⟩ = some (.int .i64 x)) (first | (refine ⟨?_, ?_⟩ <;> assumption) | go_keep)
        (first | (go_at_call 33; refine (HFR.out _ HRS.out.drew).mono ?_; rintro e w2 ⟨er, L2, bl2, rfl, HI, HB2, h2⟩; have cx := SlO.cell HO.out h2.swap (by rw [HZ.out]) (ints_get HX.out); obtain ⟨cq, -⟩ := qcells (nb := nb) (rb := rb) (qb := qb) h2 (List.mem_append_right _ (List.mem_append_right _ hm))))
      have hL2 := bfreeIs_T HI.out
      have B2 : Hid (RdO rb ((l.take (i + 1)).foldl freeT L) bl2) := by
        show RdO rb ((l.take (i + 1)).foldl freeT L) bl2
        rw [HF.out, ← hL2]
        exact HB2.out
      clear hL2
      go_wp2_with fail
      exact ⟨⟨i + 1, bl2, by go_num, by omega, B2, h2.swap⟩, by simp [intOf]; omega⟩
    · obtain rfl : i = z := by omega
      have hlti : ¬ (i : Int) < i := by omega
      have hb := HB.out
      rw [List.take_of_length_le (by have := HZ.out; omega)] at hb
      have HB' := Lib.hid hb
      clear hb
      go_wp2_with fail
      go_end0
      exact ⟨rfl, bl', HB', hr⟩
end
end Go.Proofs.Ytljcndcmdphmgaa
