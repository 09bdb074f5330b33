import Derived.Test.YtljcndcmdphmgaaZmRzC
/-
  The reference's zones: Alloc. No condition.
-/
namespace Go.Proofs.Ytljcndcmdphmgaa
open Go.RowKit
attribute [local go_sem ↓] Go.wp_at_zero Go.wp_at_succ
/-- a page's cache is set -/
def setC (L : List Pg) (page c : Int) : List Pg := match L[page.toNat]? with
  | some (k, o, _) => L.set page.toNat (k, o, c)
  | none => L
theorem setC_len (L : List Pg) (page c : Int) : (setC L page c).length = L.length := by
  unfold setC
  split <;> simp
theorem setC_at {L : List Pg} {p : Nat} {k o c0 : Int} (h : L[p]? = some (k, o, c0)) (c : Int) : setC L (p : Int) c = L.set p (k, o, c) := by
  unfold setC
  rw [Int.toNat_natCast, h]
theorem row_swap {x y : Pg} (hs : pgSize y = pgSize x) (hy : pgHead y = true) {b2 : List Pg} : ∀ (b1 : List Pg) (i : Nat), Row i (b1 ++ x :: b2) → Row i (b1 ++ y :: b2)
  | [], i, h => by
    obtain ⟨-, h2, h3⟩ := h
    exact ⟨hy, by rw [hs]; exact h2, by rw [hs]; exact h3⟩
  | z :: b1, i, h => ⟨h.1, h.2.1, row_swap hs hy b1 _ h.2.2⟩
theorem setC_tab {L bs : List Pg} (hT : Tab L bs) {p : Nat} {o c0 c : Int} (hp : L[p]? = some (2, o, c0)) (h0 : 0 ≤ c) (h8 : c ≤ 8) : ∃ bs', Tab (setC L (p : Int) c) bs' := by
  rw [setC_at hp]
  obtain ⟨b1, b2, rfl, rfl⟩ := tab_block hT hp (by simp)
  have hr := ((row_append b1 _ 0).1 hT.2).2.1
  have ho := pgHead_order hr
  simp only at ho
  refine ⟨b1 ++ (2, o, c) :: b2, ?_, row_swap (x := (2, o, c0)) (y := (2, o, c)) rfl (by unfold pgHead; exact decide_eq_true ⟨ho.1, ho.2, .inr ⟨rfl, h0, h8⟩⟩) b1 0 hT.2⟩
  conv => lhs; rw [hT.1]
  rw [lay_append, lay_append, List.set_append_right _ _ (Nat.le_refl _), Nat.sub_self]
  rfl
/-- what the reference's Alloc answers, and makes of it -/
def QAllocIs (L : List Pg) (X : List (List Int)) (cpu order cache p e : Int) (L' : List Pg) (X' : List (List Int)) : Prop :=
  (askE X.length cpu = 9 ∧ p = 0 ∧ e = 9 ∧ L' = L ∧ X' = X) ∨
  (askE X.length cpu = 0 ∧ ¬ AllocOk order cache ∧ p = 0 ∧ e = 2 ∧ L' = L ∧ X' = X) ∨
  (askE X.length cpu = 0 ∧ AllocOk order cache ∧ order = 0 ∧ nTake X cpu = ((p, true), X') ∧ e = 0 ∧ L' = setC L p cache) ∨
  (askE X.length cpu = 0 ∧ AllocOk order cache ∧ (order = 0 → nTake X cpu = ((0, false), X)) ∧
    ((∃ e1, AllocIs L order cache p e1 L' ∧ ¬ (e1 = 7 ∧ zSome X = true) ∧ e = e1 ∧ X' = X) ∨
     (∃ p1 L1, AllocIs L order cache p1 7 L1 ∧ zSome X = true ∧ AllocIs (X.flatten.foldl freeT L) order cache p e L' ∧ X' = X.map fun _ => [])))
theorem allocIs_e {L L' : List Pg} {order c p e : Int} (h : AllocIs L order c p e L') : e = 2 ∨ e = 7 ∨ e = 0 := by
  rcases h with ⟨-, -, h, -⟩ | ⟨-, -, -, h, -⟩ | ⟨-, a, k, -, -, h, -⟩
  · exact .inl h
  · exact .inr (.inl h)
  · exact .inr (.inr h)
theorem allocIs_full {L L' : List Pg} {order c p : Int} (h : AllocIs L order c p 7 L') : L' = L ∧ p = 0 := by
  rcases h with ⟨-, -, h, -⟩ | ⟨-, -, h1, -, h2⟩ | ⟨-, a, k, -, -, h, -⟩
  · omega
  · exact ⟨h2, h1⟩
  · omega
section
variable {W w : World} {m zs bs : List (Nat × Obj)} {qb : Nat} {L : List Pg} {X : List (List Int)} {v : Value} {ex : Bool}
theorem pg_storeC (hs : PgO ex v L bs) (hO : Own W (bs ++ m) w) {g cap n : Nat} (hv : v = .slice (some ⟨g, 0, none⟩) n cap) (hn : n = L.length) {j : Nat} {k o c0 : Int} (hj : L[j]? = some (k, o, c0)) (c : Int) :
    ∃ bs', PgO ex v (setC L (j : Int) c) bs' ∧ Own W (bs' ++ m) (w.setCell ⟨g, j * 3 + 2, none⟩ (.int .i64 c)) := by
  subst hn
  have hlt := (List.getElem?_eq_some_iff.1 hj).1
  obtain ⟨b1, h1, o1⟩ := SlO.store hs hO hv (j := j * 3 + 2) (by omega) (.int .i64 c)
  refine ⟨b1, ?_, o1⟩
  rw [ints_set] at h1
  obtain ⟨f0, f1, -⟩ := flat3_get hj
  have e : flat3 (setC L (j : Int) c) = (flat3 L).set (j * 3 + 2) c := by
    rw [setC_at hj, flat3_set]
    simp only
    obtain ⟨g0, e0⟩ := List.getElem?_eq_some_iff.1 f0
    obtain ⟨g1, e1⟩ := List.getElem?_eq_some_iff.1 f1
    simp only at e0 e1
    have s0 : (flat3 L).set (j * 3) k = flat3 L := by
      conv => lhs; rw [← e0]
      exact List.set_getElem_self g0
    rw [s0]
    have s1 : (flat3 L).set (j * 3 + 1) o = flat3 L := by
      conv => lhs; rw [← e1]
      exact List.set_getElem_self g1
    rw [s1]
  unfold PgO
  rw [setC_len, e]
  exact h1
def QAllocPost (W : World) (m : List (Nat × Obj)) (qb : Nat) (L : List Pg) (X : List (List Int)) (cpu order cache : Int) (x : Ending) (w' : World) : Prop :=
  ∃ p e L' X' zs', x = .returned (.tuple #[.int .i64 p, .int .i64 e]) ∧ Hid (QAllocIs L X cpu order cache p e L' X') ∧ Hid (QO qb L' X' zs') ∧ Own W (zs' ++ m) w'
set_option maxRecDepth 100000 in
set_option maxHeartbeats 4000000 in
theorem qalloc_bad (h : Own W (zs ++ m) w) (hq : QO qb L X zs) (cpu order cache : Int) (hbad : askE X.length cpu = 9 ∨ ¬ AllocOk order cache) :
    Calls Try.prog 69 #[.pointer (some ⟨qb, 0, none⟩), .int .i64 cpu, .int .i64 order, .int .i64 cache] w (QAllocPost W m qb L X cpu order cache) := by
  have HQ := Lib.hid hq
  have hask := qhas_spec h hq cpu
  rcases askE_cases X.length cpu with h9 | ⟨h9, hc0, hc1⟩
  · have HI : Hid (QAllocIs L X cpu order cache 0 9 L X) := .inl ⟨h9, rfl, rfl, rfl, rfl⟩
    rw [h9] at hask
    have HASK := Lib.hid hask
    clear h9 hask hq hbad
    go_enter Try.func69, Try.ntmps69
    go_wp2_with fail
    refine HASK.out.mono ?_
    rintro e w1 ⟨rfl, rfl⟩
    go_wp2_with fail
    go_ret2
    exact ⟨0, 9, L, X, zs, rfl, HI, HQ, h⟩
  · have hno : ¬ AllocOk order cache := by
      rcases hbad with hb | hb
      · omega
      · exact hb
    have HI : Hid (QAllocIs L X cpu order cache 0 2 L X) := .inr (.inl ⟨h9, hno, rfl, rfl, rfl, rfl⟩)
    rw [h9] at hask
    have HASK := Lib.hid hask
    have hcase : order < 0 ∨ (0 ≤ order ∧ 10 < order) ∨ (0 ≤ order ∧ order ≤ 10 ∧ cache < 0) ∨ (0 ≤ order ∧ order ≤ 10 ∧ 0 ≤ cache ∧ 8 < cache) := by
      unfold AllocOk at hno
      omega
    clear h9 hask hq hbad hno
    rcases hcase with b1 | ⟨b1, b2⟩ | ⟨b1, b2, b3⟩ | ⟨b1, b2, b3, b4⟩
    all_goals
      go_enter Try.func69, Try.ntmps69
      go_wp2_with fail
      refine HASK.out.mono ?_
      rintro e w1 ⟨rfl, rfl⟩
      go_wp2_with fail
      go_ret2
      exact ⟨0, 2, L, X, zs, rfl, HI, HQ, h⟩
set_option maxRecDepth 100000 in
set_option maxHeartbeats 8000000 in
theorem qalloc_more (h : Own W (zs ++ m) w) (hq : QO qb L X zs) (cpu order cache : Int) (h9 : askE X.length cpu = 0) (hok : AllocOk order cache) (ho : 0 < order) :
    Calls Try.prog 69 #[.pointer (some ⟨qb, 0, none⟩), .int .i64 cpu, .int .i64 order, .int .i64 cache] w (QAllocPost W m qb L X cpu order cache) := by
  have HQ := Lib.hid hq
  have hask := qhas_spec h hq cpu
  rw [h9] at hask
  have HASK := Lib.hid hask
  have HOK := Lib.hid hok
  have H9 := Lib.hid h9
  have HNT : Hid (order = 0 → nTake X cpu = ((0, false), X)) := fun h0 => by omega
  obtain ⟨b1, b2, b3, b4⟩ := hok
  have hz0 : (order == 0) = false := beq_eq_false_iff_ne.2 (by omega)
  clear hask hq h9 b1
  go_enter Try.func69, Try.ntmps69
  go_wp2_with fail
  refine HASK.out.mono ?_
  rintro e w1 ⟨rfl, rfl⟩
  obtain ⟨rb, nb, nl, bl, Ln, hi⟩ := HQ.out
  have ho := hi.own h
  obtain ⟨c0, c1⟩ := qcells ho List.mem_cons_self
  obtain ⟨bT, hT⟩ := hi.tab
  have hal := ralloc_is (ho.perm (q_bud _ _ _ _)) hi.bud hT hi.l1 hi.l2 order cache
  have HAL := Lib.hid hal
  have HI := Lib.hid hi
  have HT := Lib.hid hT
  clear hal hi hT ho h
  go_wp2_with fail
  refine HAL.out.mono ?_
  rintro e w2 ⟨p1, e1, L1, bl1, rfl, HA1, HB1, h2⟩
  obtain ⟨zs1, hq1, h3⟩ := q_fin HI.out HI.out.nr rfl HI.out.xb HB1.out (allocIs_tab HT.out HA1.out).1 (allocIs_tab HT.out HA1.out).2 (by simpa using h2)
  have HQ1 := Lib.hid hq1
  have HAK := Lib.hid (allocIs_e HA1.out)
  clear h2 HB1 HI HAL hq1 c0 c1
  obtain ⟨K, hK⟩ : ∃ K, nearAll X = K := ⟨_, rfl⟩
  have HK := Lib.hid hK
  clear hK
  by_cases he7 : e1 = 7
  · subst he7
    have hL1 := allocIs_full HA1.out
    obtain ⟨hL1, hp1⟩ := hL1
    subst hL1
    subst hp1
    go_wp2_with fail
    refine (qnear_spec h3 HQ1.out).mono ?_
    rintro e w3 ⟨rfl, h4⟩
    rw [HK.out]
    by_cases hK0 : 0 < K
    · have hki : (0 : Int) < (K : Int) := by omega
      have HS : Hid (zSome X = true) := by
        show zSome X = true
        unfold zSome
        have := HK.out
        unfold nearAll at this
        rw [this]
        exact decide_eq_true hK0
      obtain ⟨C, hC⟩ : ∃ C, X.length = C := ⟨_, rfl⟩
      have HC := Lib.hid hC
      have hC8 : C ≤ 8 := by
        obtain ⟨_, _, _, _, _, hi⟩ := HQ1.out
        have := q_c8 hi
        omega
      have HQ0 : Hid (QO qb ((X.take 0).flatten.foldl freeT L1) (dTo X 0) zs1) := HQ1.out
      clear hC h3 HQ1
      go_wp2_with fail
      go_loopw [14] (fun iv wr => ∃ (c : Nat) (zs : List (Nat × Obj)), iv = .int .i64 c ∧ c ≤ C ∧ Hid (QO qb ((X.take c).flatten.foldl freeT L1) (dTo X c) zs) ∧ Own W (zs ++ m) wr) (fun iv _ => C - (intOf iv).toNat)
      case atStart => exact ⟨0, zs1, rfl, by omega, HQ0, h4⟩
      case round =>
        clear HQ0 h4
        obtain ⟨c, zs, rfl, hc, HQ2, hr⟩ := hrel
        obtain ⟨rb, nb, nl, bl, Ln, hi⟩ := HQ2.out
        have ho := hi.own hr
        obtain ⟨c0, c1⟩ := qcells ho List.mem_cons_self
        have hnr := ho.perm (q_near _ _ _ _)
        have c2 := nrHead hnr
        rw [hi.len, dTo_len (by rw [HC.out]; exact hc), HC.out] at c2
        by_cases hlt : c < C
        · have hlti : (c : Int) < C := by omega
          obtain ⟨xs, hx⟩ : ∃ xs, X[c]? = some xs := ⟨_, List.getElem?_eq_getElem (by have := HC.out; omega)⟩
          obtain ⟨hd, hflat⟩ := dTo_step hx
          have hdr := rdrain_spec hnr hi.nr (c : Int)
          unfold NDrainPost at hdr
          rw [hd] at hdr
          have HDR := Lib.hid hdr
          have HI := Lib.hid hi
          have HFL := Lib.hid hflat
          clear hd hflat hx hdr hnr hi ho hr
          go_wp2_with fail
          refine HDR.out.mono ?_
          rintro e w4 ⟨v1, bs1, Lm, rfl, o1, ok1, h5⟩
          obtain ⟨A1, k1, rfl, -, -⟩ := o1.slice
          have O1 := Lib.hid o1
          have OK1 := Lib.hid ok1
          have h6 := h5.perm (List.Perm.append_left bs1 ((q_near _ _ _ _).symm.trans (q_bud _ _ _ _)))
          obtain ⟨bT2, hT2⟩ := HI.out.tab
          have HT2 := Lib.hid hT2
          clear o1 ok1 h5 hT2 HDR
          go_wp2_with fail
          refine (qback_spec List.mem_cons_self h6 O1.out HI.out.bud HT2.out HI.out.l1 HI.out.l2).mono ?_
          rintro e w5 ⟨bl2, rfl, HB2, h7⟩
          have hxl : (dTo X (c + 1)).length = (dTo X c).length := by
            rw [dTo_len (by have := HC.out; omega), dTo_len (by have := HC.out; omega)]
          obtain ⟨zs2, hz2, h8⟩ := q_fin HI.out OK1.out hxl (dTo_xb HI.out.xb) HB2.out (backs_tab xs HT2.out).1 (backs_tab xs HT2.out).2 h7.dropL
          rw [← List.foldl_append, ← HFL.out] at hz2
          have HZ2 := Lib.hid hz2
          clear hz2 HB2 O1 OK1 h6 h7 hxl c0 c1 c2
          go_wp2_with fail
          exact ⟨⟨c + 1, zs2, by go_num, by omega, HZ2, h8⟩, by simp [intOf]; omega⟩
        · obtain rfl : c = C := by omega
          have hlti : ¬ (c : Int) < c := by omega
          have hi2 := hi
          rw [List.take_of_length_le (by rw [HC.out]; exact Nat.le_refl _), ← HC.out, dTo_all] at hi2
          obtain ⟨bT3, hT3⟩ := hi2.tab
          have hal := ralloc_is (ho.perm (q_bud _ _ _ _)) hi2.bud hT3 hi2.l1 hi2.l2 order cache
          have HAL := Lib.hid hal
          have HI := Lib.hid hi2
          have HT3 := Lib.hid hT3
          clear hal hi hi2 hT3 ho hnr hr HQ2
          go_wp2_with fail
          refine HAL.out.mono ?_
          rintro e w6 ⟨p2, e2, L2, bl2, rfl, HA2, HB2, h9⟩
          obtain ⟨zs2, hz2, h10⟩ := q_fin HI.out HI.out.nr rfl HI.out.xb HB2.out (allocIs_tab HT3.out HA2.out).1 (allocIs_tab HT3.out HA2.out).2 (by simpa using h9)
          have HZ2 := Lib.hid hz2
          clear hz2 h9 HB2
          go_wp2_with fail
          go_ret2
          exact ⟨p2, e2, L2, _, zs2, rfl, .inr (.inr (.inr ⟨H9.out, HOK.out, HNT.out, .inr ⟨0, L1, HA1.out, HS.out, HA2.out, rfl⟩⟩)), HZ2, h10⟩
    · have hki : ¬ (0 : Int) < (K : Int) := by omega
      have HS : Hid (¬ zSome X = true) := by
        show ¬ zSome X = true
        unfold zSome
        have := HK.out
        unfold nearAll at this
        rw [this]
        simp
        omega
      go_wp2_with fail
      go_ret2
      exact ⟨0, 7, L1, X, zs1, rfl, .inr (.inr (.inr ⟨H9.out, HOK.out, HNT.out, .inl ⟨7, HA1.out, fun hh => HS.out hh.2, rfl, rfl⟩⟩)), HQ1, h4⟩
  · have he7b : (e1 == 7) = false := beq_eq_false_iff_ne.2 he7
    go_wp2_with fail
    go_ret2
    exact ⟨p1, e1, L1, X, zs1, rfl, .inr (.inr (.inr ⟨H9.out, HOK.out, HNT.out, .inl ⟨e1, HA1.out, fun hh => he7 hh.1, rfl, rfl⟩⟩)), HQ1, h3⟩
set_option maxRecDepth 100000 in
set_option maxHeartbeats 8000000 in
theorem qalloc_zero (h : Own W (zs ++ m) w) (hq : QO qb L X zs) (cpu cache : Int) (h9 : askE X.length cpu = 0) (hok : AllocOk 0 cache) (ht : (nTake X cpu).1.2 = false) :
    Calls Try.prog 69 #[.pointer (some ⟨qb, 0, none⟩), .int .i64 cpu, .int .i64 0, .int .i64 cache] w (QAllocPost W m qb L X cpu 0 cache) := by
  have hask := qhas_spec h hq cpu
  rw [h9] at hask
  have HASK := Lib.hid hask
  have HOK := Lib.hid hok
  have H9 := Lib.hid h9
  have hnt := nTake_no ht
  have HNT := Lib.hid hnt
  obtain ⟨b1, b2, b3, b4⟩ := hok
  obtain ⟨rb, nb, nl, bl, Ln, hi⟩ := hq
  have ho := hi.own h
  obtain ⟨c0, c1⟩ := qcells ho List.mem_cons_self
  have htk := rtake_spec (ho.perm (q_near _ _ _ _)) hi.nr cpu
  unfold NTakePost at htk
  rw [hnt] at htk
  have HTK := Lib.hid htk
  have HI := Lib.hid hi
  clear hask h9 hnt htk hi ho ht b1 b2 h
  go_enter Try.func69, Try.ntmps69
  go_wp2_with fail
  refine HASK.out.mono ?_
  rintro e w1 ⟨rfl, rfl⟩
  go_wp2_with fail
  refine HTK.out.mono ?_
  rintro e w2 ⟨Ln2, rfl, ok2, h⟩
  have h := h.perm ((q_near _ _ _ _).symm.trans (q_bud _ _ _ _))
  obtain ⟨zs, hq, h⟩ := q_fin HI.out ok2 rfl HI.out.xb HI.out.bud HI.out.tab rfl h
  have HQ := Lib.hid hq
  clear hq ok2 HI c0 c1 HTK
  obtain ⟨rb, nb, nl, bl, Ln, hi⟩ := HQ.out
  have ho := hi.own h
  obtain ⟨c0, c1⟩ := qcells ho List.mem_cons_self
  obtain ⟨bT, hT⟩ := hi.tab
  have hal := ralloc_is (ho.perm (q_bud _ _ _ _)) hi.bud hT hi.l1 hi.l2 0 cache
  have HAL := Lib.hid hal
  have HI := Lib.hid hi
  have HT := Lib.hid hT
  clear hal hi hT ho h
  go_wp2_with fail
  refine HAL.out.mono ?_
  rintro e w2 ⟨p1, e1, L1, bl1, rfl, HA1, HB1, h2⟩
  obtain ⟨zs1, hq1, h3⟩ := q_fin HI.out HI.out.nr rfl HI.out.xb HB1.out (allocIs_tab HT.out HA1.out).1 (allocIs_tab HT.out HA1.out).2 (by simpa using h2)
  have HQ1 := Lib.hid hq1
  have HAK := Lib.hid (allocIs_e HA1.out)
  clear h2 HB1 HI HAL hq1 c0 c1
  obtain ⟨K, hK⟩ : ∃ K, nearAll X = K := ⟨_, rfl⟩
  have HK := Lib.hid hK
  clear hK
  by_cases he7 : e1 = 7
  · subst he7
    have hL1 := allocIs_full HA1.out
    obtain ⟨hL1, hp1⟩ := hL1
    subst hL1
    subst hp1
    go_wp2_with fail
    refine (qnear_spec h3 HQ1.out).mono ?_
    rintro e w3 ⟨rfl, h4⟩
    rw [HK.out]
    by_cases hK0 : 0 < K
    · have hki : (0 : Int) < (K : Int) := by omega
      have HS : Hid (zSome X = true) := by
        show zSome X = true
        unfold zSome
        have := HK.out
        unfold nearAll at this
        rw [this]
        exact decide_eq_true hK0
      obtain ⟨C, hC⟩ : ∃ C, X.length = C := ⟨_, rfl⟩
      have HC := Lib.hid hC
      have hC8 : C ≤ 8 := by
        obtain ⟨_, _, _, _, _, hi⟩ := HQ1.out
        have := q_c8 hi
        omega
      have HQ0 : Hid (QO qb ((X.take 0).flatten.foldl freeT L1) (dTo X 0) zs1) := HQ1.out
      clear hC h3 HQ1
      go_wp2_with fail
      go_loopw [14] (fun iv wr => ∃ (c : Nat) (zs : List (Nat × Obj)), iv = .int .i64 c ∧ c ≤ C ∧ Hid (QO qb ((X.take c).flatten.foldl freeT L1) (dTo X c) zs) ∧ Own W (zs ++ m) wr) (fun iv _ => C - (intOf iv).toNat)
      case atStart => exact ⟨0, zs1, rfl, by omega, HQ0, h4⟩
      case round =>
        clear HQ0 h4
        obtain ⟨c, zs, rfl, hc, HQ2, hr⟩ := hrel
        obtain ⟨rb, nb, nl, bl, Ln, hi⟩ := HQ2.out
        have ho := hi.own hr
        obtain ⟨c0, c1⟩ := qcells ho List.mem_cons_self
        have hnr := ho.perm (q_near _ _ _ _)
        have c2 := nrHead hnr
        rw [hi.len, dTo_len (by rw [HC.out]; exact hc), HC.out] at c2
        by_cases hlt : c < C
        · have hlti : (c : Int) < C := by omega
          obtain ⟨xs, hx⟩ : ∃ xs, X[c]? = some xs := ⟨_, List.getElem?_eq_getElem (by have := HC.out; omega)⟩
          obtain ⟨hd, hflat⟩ := dTo_step hx
          have hdr := rdrain_spec hnr hi.nr (c : Int)
          unfold NDrainPost at hdr
          rw [hd] at hdr
          have HDR := Lib.hid hdr
          have HI := Lib.hid hi
          have HFL := Lib.hid hflat
          clear hd hflat hx hdr hnr hi ho hr
          go_wp2_with fail
          refine HDR.out.mono ?_
          rintro e w4 ⟨v1, bs1, Lm, rfl, o1, ok1, h5⟩
          obtain ⟨A1, k1, rfl, -, -⟩ := o1.slice
          have O1 := Lib.hid o1
          have OK1 := Lib.hid ok1
          have h6 := h5.perm (List.Perm.append_left bs1 ((q_near _ _ _ _).symm.trans (q_bud _ _ _ _)))
          obtain ⟨bT2, hT2⟩ := HI.out.tab
          have HT2 := Lib.hid hT2
          clear o1 ok1 h5 hT2 HDR
          go_wp2_with fail
          refine (qback_spec List.mem_cons_self h6 O1.out HI.out.bud HT2.out HI.out.l1 HI.out.l2).mono ?_
          rintro e w5 ⟨bl2, rfl, HB2, h7⟩
          have hxl : (dTo X (c + 1)).length = (dTo X c).length := by
            rw [dTo_len (by have := HC.out; omega), dTo_len (by have := HC.out; omega)]
          obtain ⟨zs2, hz2, h8⟩ := q_fin HI.out OK1.out hxl (dTo_xb HI.out.xb) HB2.out (backs_tab xs HT2.out).1 (backs_tab xs HT2.out).2 h7.dropL
          rw [← List.foldl_append, ← HFL.out] at hz2
          have HZ2 := Lib.hid hz2
          clear hz2 HB2 O1 OK1 h6 h7 hxl c0 c1 c2
          go_wp2_with fail
          exact ⟨⟨c + 1, zs2, by go_num, by omega, HZ2, h8⟩, by simp [intOf]; omega⟩
        · obtain rfl : c = C := by omega
          have hlti : ¬ (c : Int) < c := by omega
          have hi2 := hi
          rw [List.take_of_length_le (by rw [HC.out]; exact Nat.le_refl _), ← HC.out, dTo_all] at hi2
          obtain ⟨bT3, hT3⟩ := hi2.tab
          have hal := ralloc_is (ho.perm (q_bud _ _ _ _)) hi2.bud hT3 hi2.l1 hi2.l2 0 cache
          have HAL := Lib.hid hal
          have HI := Lib.hid hi2
          have HT3 := Lib.hid hT3
          clear hal hi hi2 hT3 ho hnr hr HQ2
          go_wp2_with fail
          refine HAL.out.mono ?_
          rintro e w6 ⟨p2, e2, L2, bl2, rfl, HA2, HB2, h9⟩
          obtain ⟨zs2, hz2, h10⟩ := q_fin HI.out HI.out.nr rfl HI.out.xb HB2.out (allocIs_tab HT3.out HA2.out).1 (allocIs_tab HT3.out HA2.out).2 (by simpa using h9)
          have HZ2 := Lib.hid hz2
          clear hz2 h9 HB2
          go_wp2_with fail
          go_ret2
          exact ⟨p2, e2, L2, _, zs2, rfl, .inr (.inr (.inr ⟨H9.out, HOK.out, fun _ => HNT.out, .inr ⟨0, L1, HA1.out, HS.out, HA2.out, rfl⟩⟩)), HZ2, h10⟩
    · have hki : ¬ (0 : Int) < (K : Int) := by omega
      have HS : Hid (¬ zSome X = true) := by
        show ¬ zSome X = true
        unfold zSome
        have := HK.out
        unfold nearAll at this
        rw [this]
        simp
        omega
      go_wp2_with fail
      go_ret2
      exact ⟨0, 7, L1, X, zs1, rfl, .inr (.inr (.inr ⟨H9.out, HOK.out, fun _ => HNT.out, .inl ⟨7, HA1.out, fun hh => HS.out hh.2, rfl, rfl⟩⟩)), HQ1, h4⟩
  · have he7b : (e1 == 7) = false := beq_eq_false_iff_ne.2 he7
    go_wp2_with fail
    go_ret2
    exact ⟨p1, e1, L1, X, zs1, rfl, .inr (.inr (.inr ⟨H9.out, HOK.out, fun _ => HNT.out, .inl ⟨e1, HA1.out, fun hh => he7 hh.1, rfl, rfl⟩⟩)), HQ1, h3⟩
set_option maxRecDepth 100000 in
set_option maxHeartbeats 8000000 in
theorem qalloc_take (h : Own W (zs ++ m) w) (hq : QO qb L X zs) (hnr : ∀ xs ∈ X, ∀ p ∈ xs, ∃ c, L[p.toNat]? = some (2, 0, c)) (cpu cache : Int) (h9 : askE X.length cpu = 0) (hok : AllocOk 0 cache) (ht : (nTake X cpu).1.2 = true) :
    Calls Try.prog 69 #[.pointer (some ⟨qb, 0, none⟩), .int .i64 cpu, .int .i64 0, .int .i64 cache] w (QAllocPost W m qb L X cpu 0 cache) := by
  have hask := qhas_spec h hq cpu
  rw [h9] at hask
  have HASK := Lib.hid hask
  obtain ⟨xs, p, ys, hxa, hxs, hnt⟩ := nTake_yes ht
  have hxm : xs ∈ X := by
    unfold xAt at hxa
    split at hxa
    · exact List.mem_of_getElem? hxa
    · cases hxa
  have hpm : p ∈ xs := by rw [hxs]; simp
  obtain ⟨cc, hcc⟩ := hnr xs hxm p hpm
  obtain ⟨rb, nb, nl, bl, Ln, hi⟩ := hq
  obtain ⟨hp0, -⟩ := hi.xb xs hxm p hpm
  obtain ⟨q, rfl⟩ : ∃ q : Nat, p = q := ⟨p.toNat, by omega⟩
  rw [Int.toNat_natCast] at hcc
  have hqL := (List.getElem?_eq_some_iff.1 hcc).1
  have HA : Hid (QAllocIs L X cpu 0 cache (q : Int) 0 (setC L (q : Int) cache) (X.set cpu.toNat ys)) := .inr (.inr (.inl ⟨h9, hok, rfl, hnt, rfl, rfl⟩))
  obtain ⟨b1, b2, b3, b4⟩ := hok
  have ho := hi.own h
  obtain ⟨c0, c1⟩ := qcells ho List.mem_cons_self
  have htk := rtake_spec (ho.perm (q_near _ _ _ _)) hi.nr cpu
  unfold NTakePost at htk
  rw [hnt] at htk
  have HTK := Lib.hid htk
  have HI := Lib.hid hi
  have HCC := Lib.hid hcc
  have HXS : Hid (∀ zs ∈ X.set cpu.toNat ys, ∀ p ∈ zs, 0 ≤ p ∧ p < 1024) := fun zs hz p hp => by
    rcases List.mem_or_eq_of_mem_set hz with hz | rfl
    · exact hi.xb zs hz p hp
    · exact hi.xb xs hxm p (by rw [hxs]; exact List.mem_append_left _ hp)
  obtain ⟨vB, bB, hpg, hbl⟩ := hi.bud
  obtain ⟨g, cap, cur, rfl, -, hcap, -⟩ := hpg.form (by have := hi.l1; omega)
  have HPG := Lib.hid hpg
  have HBL := Lib.hid hbl
  have HST : Hid (∃ bs', Tab (setC L (q : Int) cache) bs') := by
    obtain ⟨bT, hT⟩ := hi.tab
    exact setC_tab hT hcc b3 b4
  obtain ⟨N, hN⟩ : ∃ N, L.length = N := ⟨_, rfl⟩
  have HN := Lib.hid hN
  rw [hN] at hqL
  have hqi : (q : Int) < N := by omega
  have hq0 : (0 : Int) ≤ q := by omega
  clear hask h9 hnt htk hi ho ht b1 b2 h hxa hxs hxm hpm hnr hpg hbl hcc hN
  go_enter Try.func69, Try.ntmps69
  go_wp2_with fail
  refine HASK.out.mono ?_
  rintro e w1 ⟨rfl, rfl⟩
  go_wp2_with fail
  refine HTK.out.mono ?_
  rintro e w2 ⟨Ln2, rfl, ok2, h2⟩
  have OK2 := Lib.hid ok2
  have h3 := h2.perm ((q_near _ _ _ _).symm.trans (q_bud _ _ _ _))
  rw [HBL.out] at h3
  obtain ⟨c0, c1⟩ := qcells (rb := rb) (nb := nb) (qb := qb) h3 (List.mem_append_right _ List.mem_cons_self)
  have cv := rd_cell h3
  have h4 := h3.perm List.perm_middle.symm
  obtain ⟨-, -, d2, -, -, fr⟩ := pg_cells HPG.out h4 rfl rfl HCC.out
  obtain ⟨bB2, hpg2, h5⟩ := pg_storeC HPG.out h4 rfl rfl HCC.out cache
  have HPG2 := Lib.hid hpg2
  rw [HN.out] at cv
  simp only at d2
  have H5 := Lib.hid h5
  clear ok2 h2 h3 h4 h5 hpg2
  go_wp2_with fail
  go_ret2
  have h6 := H5.out.perm List.perm_middle
  obtain ⟨zs2, hz2, h7⟩ := q_fin (L' := setC L (q : Int) cache) HI.out OK2.out (by simp) HXS.out (bl2 := (rb, .cells #[.slice (some ⟨g, 0, none⟩) L.length cap] 57) :: bB2) ⟨_, _, HPG2.out, rfl⟩ HST.out (setC_len _ _ _) h6
  exact ⟨q, 0, _, _, zs2, rfl, HA, hz2, h7⟩
theorem qalloc_spec (h : Own W (zs ++ m) w) (hq : QO qb L X zs) (hnr : ∀ xs ∈ X, ∀ p ∈ xs, ∃ c, L[p.toNat]? = some (2, 0, c)) (cpu order cache : Int) :
    Calls Try.prog 69 #[.pointer (some ⟨qb, 0, none⟩), .int .i64 cpu, .int .i64 order, .int .i64 cache] w (QAllocPost W m qb L X cpu order cache) := by
  by_cases hbad : askE X.length cpu = 9 ∨ ¬ AllocOk order cache
  · exact qalloc_bad h hq cpu order cache hbad
  · have h9 : askE X.length cpu = 0 := by
      rcases askE_cases X.length cpu with h | ⟨h, -⟩
      · exact absurd (.inl h) hbad
      · exact h
    have hok : AllocOk order cache := Classical.byContradiction fun hn => hbad (.inr hn)
    by_cases ho : order = 0
    · subst ho
      cases ht : (nTake X cpu).1.2 with
      | true => exact qalloc_take h hq hnr cpu cache h9 hok ht
      | false => exact qalloc_zero h hq cpu cache h9 hok ht
    · exact qalloc_more h hq cpu order cache h9 hok (by have := hok.1; omega)
end
end Go.Proofs.Ytljcndcmdphmgaa
