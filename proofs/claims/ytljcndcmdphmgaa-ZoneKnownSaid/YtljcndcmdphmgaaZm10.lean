/-
  Texts of this claim, joined. No condition.
-/
import Derived.Test.YtljcndcmdphmgaaZm9
/-
  Zones: Free. No condition.
-/
namespace Go.Proofs.Ytljcndcmdphmgaa
open Go.RowKit
attribute [local go_sem ↓] Go.wp_at_zero Go.wp_at_succ
/-- what Free of a zone answers, and makes of it -/
def ZFreeIs (L : List Pg) (X : List (List Int)) (f : Int → Option Int) (cpu page e : Int) (L' : List Pg) (X' : List (List Int)) (f' : Int → Option Int) : Prop :=
  (askE X.length cpu = 9 ∧ e = 9 ∧ L' = L ∧ X' = X ∧ f' = f) ∨
  (askE X.length cpu = 0 ∧ (∃ t, ZTagIs L X f page t ∧ ∀ h o c, t = some (h, o, c) → h ≠ page) ∧ e = 60 ∧ L' = L ∧ X' = X ∧ f' = f) ∨
  (askE X.length cpu = 0 ∧ ∃ o c, ZTagIs L X f page (some (page, o, c)) ∧ 0 < o ∧ BFreeIs L page e L' ∧ X' = X ∧ f' = f) ∨
  (askE X.length cpu = 0 ∧ ∃ o c, ZTagIs L X f page (some (page, o, c)) ∧ o ≤ 0 ∧ e = 0 ∧ L' = (nPut X 6 cpu page).1.1.foldl freeT L ∧ X' = (nPut X 6 cpu page).2 ∧ f' = fDel f page)
theorem ztag_some {L : List Pg} {X : List (List Int)} {f : Int → Option Int} {page o c : Int} (h : ZTagIs L X f page (some (page, o, c))) : 0 ≤ page ∧ page < L.length ∧ xHas X page = false ∧ ∃ c', L[page.toNat]? = some (2, o, c') ∧ c = (f page).getD c' := by
  rcases h with ⟨-, h⟩ | ⟨p, a, ⟨x0, x1, x2⟩, rfl, h1, h2, ⟨-, h3⟩ | ⟨h3, h4, h5⟩⟩
  · cases h
  · cases h3
  · simp only [Option.some.injEq, Prod.mk.injEq] at h5
    obtain ⟨h5, rfl, rfl⟩ := h5
    obtain rfl : p = a := by omega
    simp only at h3
    subst h3
    exact ⟨by omega, by omega, h4, x2, by rw [Int.toNat_natCast]; exact h2.1, rfl⟩
theorem nPut_ok {X : List (List Int)} {cpu page : Int} (h0 : 0 ≤ page) (h1 : page < 1024) (hh : xHas X page = false) (hc0 : 0 ≤ cpu) (hc1 : cpu < X.length) :
    ∃ xs, xAt X cpu = some xs ∧ nPut X 6 cpu page = (((xs ++ [page]).take (nrK 6 (xs.length + 1)), 0), X.set cpu.toNat ((xs ++ [page]).drop (nrK 6 (xs.length + 1)))) := by
  obtain ⟨xs, hx⟩ : ∃ xs, xAt X cpu = some xs := by
    unfold xAt
    rw [if_pos hc0]
    exact ⟨_, List.getElem?_eq_getElem (by omega)⟩
  refine ⟨xs, hx, ?_⟩
  unfold nPut
  rw [hx]
  simp only
  rw [if_neg (by omega), if_neg (by rw [hh]; simp)]
section
variable {W w : World} {m zs : List (Nat × Obj)} {zb : Nat} {L : List Pg} {X : List (List Int)} {f : Int → Option Int} {n : Nat}
def ZFreePost (W : World) (m : List (Nat × Obj)) (zb : Nat) (L : List Pg) (X : List (List Int)) (f : Int → Option Int) (n : Nat) (cpu page : Int) (x : Ending) (w' : World) : Prop :=
  ∃ e L' X' f' zs', x = .returned (.int .i64 e) ∧ Hid (ZFreeIs L X f cpu page e L' X' f') ∧ Hid (ZO zb L' X' f' n zs') ∧ Own W (zs' ++ m) w'
set_option maxRecDepth 100000 in
set_option maxHeartbeats 4000000 in
theorem zfree_spec (h : Own W (zs ++ m) w) (hz : ZO zb L X f n zs) (cpu page : Int) :
    Calls Try.prog 43 #[.pointer (some ⟨zb, 0, none⟩), .int .i64 cpu, .int .i64 page] w (ZFreePost W m zb L X f n cpu page) := by
  have HZ := Lib.hid hz
  have hask := asked_spec h hz cpu
  rcases askE_cases X.length cpu with h9 | ⟨h9, hc0, hc1⟩
  · have HI : Hid (ZFreeIs L X f cpu page 9 L X f) := .inl ⟨h9, rfl, rfl, rfl, rfl⟩
    rw [h9] at hask
    have HASK := Lib.hid hask
    clear h9 hask hz
    go_enter Try.func43, Try.ntmps43
    go_wp2_with fail
    refine HASK.out.mono ?_
    rintro e w1 ⟨rfl, rfl⟩
    go_wp2_with fail
    go_ret
    exact ⟨9, L, X, f, zs, rfl, HI, HZ, h⟩
  · have H9 := Lib.hid h9
    rw [h9] at hask
    have HASK := Lib.hid hask
    have HC : Hid (0 ≤ cpu ∧ cpu < (X.length : Int)) := ⟨hc0, hc1⟩
    clear h9 hask hz hc0 hc1
    go_enter Try.func43, Try.ntmps43
    go_wp2_with fail
    refine HASK.out.mono ?_
    rintro e w1 ⟨rfl, rfl⟩
    go_wp2_with fail
    refine (ztag_spec h HZ.out page).mono ?_
    rintro e w2 ⟨t, rfl, HT, h2⟩
    have hbox : ∀ (x y z : Int), Own W (zs ++ (w2.heap.size, .cells #[.int .i64 x, .int .i64 y, .int .i64 z] 80) :: m) (w2.alloc (.cells #[.int .i64 x, .int .i64 y, .int .i64 z] 80)) := fun x y z => h2.new1 _
    cases t with
    | none =>
      have HI : Hid (ZFreeIs L X f cpu page 60 L X f) := .inr (.inl ⟨H9.out, ⟨none, HT.out, fun h o c he => by cases he⟩, rfl, rfl, rfl, rfl⟩)
      have hb := hbox 0 0 0
      have HB := Lib.hid hb
      clear hbox hb HT
      unfold tagV
      go_wp2_with fail
      go_ret
      exact ⟨60, L, X, f, zs, rfl, HI, HZ, HB.out.drop1⟩
    | some t =>
      obtain ⟨th, tq, tc⟩ := t
      have hb := hbox th tq tc
      clear hbox
      have q0 := hb.dropL.cell List.mem_cons_self 0
      have q1 := hb.dropL.cell List.mem_cons_self 1
      simp at q0 q1
      by_cases hth : th = page
      · subst hth
        obtain ⟨g1, g2, g3, c', g4, g5⟩ := ztag_some HT.out
        obtain ⟨pb, nb, nl, mb, bl, Ln, es, ck, hi⟩ := HZ.out
        have hl2 := hi.l2
        have hr := hb
        rw [hi.eq] at hr
        obtain ⟨y0, y1, y2, y3, y4⟩ := zcells hr
        by_cases htq : 0 < tq
        · obtain ⟨bT, hbT⟩ := hi.tab
          have hfree := free_is (hr.perm (z_bud _ _ _ _ _)) hi.bud hbT hi.l1 hi.l2 th
          have HFR := Lib.hid hfree
          have HII := Lib.hid hi
          have TB := Lib.hid hbT
          clear hr hi hbT hfree hl2 g1 g2 g3 g4 g5
          unfold tagV
          go_wp2_with fail
          refine HFR.out.mono ?_
          rintro e w4 ⟨er, L4, bl4, rfl, HF, HB4, h4⟩
          have HI : Hid (ZFreeIs L X f cpu th er L4 X f) := .inr (.inr (.inl ⟨H9.out, tq, tc, HT.out, htq, HF.out, rfl, rfl⟩))
          obtain ⟨ht4, hl4⟩ := bfreeIs_tab TB.out HF.out
          have hz4 : ∃ zs4, Hid (ZO zb L4 X f n zs4) ∧ Own W (zs4 ++ m) w4 := by
            refine ⟨_, ⟨pb, nb, nl, mb, bl4, Ln, es, ck, ⟨HB4.out, HII.out.nr, HII.out.im, ht4, by rw [hl4]; exact HII.out.l1, by rw [hl4]; exact HII.out.l2, HII.out.x1, HII.out.xb, rfl⟩⟩, ?_⟩
            rw [hl4]
            exact (h4.perm (z_bud _ _ _ _ _).symm).drop1
          obtain ⟨zs4, HZ4, h5⟩ := hz4
          clear ht4 hl4
          go_wp2_with fail
          go_ret
          exact ⟨er, L4, X, f, zs4, rfl, HI, HZ4, h5⟩
        · have htq2 : tq ≤ 0 := by omega
          obtain ⟨xs, hxa, hput⟩ := nPut_ok (X := X) (cpu := cpu) (page := th) g1 (by omega) g3 HC.out.1 HC.out.2
          obtain ⟨bl2, hbl2⟩ : ∃ l, (nPut X 6 cpu th).1.1 = l := ⟨_, rfl⟩
          obtain ⟨X2, hX2⟩ : ∃ X2, (nPut X 6 cpu th).2 = X2 := ⟨_, rfl⟩
          have he0 : (nPut X 6 cpu th).1.2 = 0 := by rw [hput]
          have hX2l : X2.length = X.length := by rw [← hX2, hput]; simp
          have hxm : xs ∈ X := by
            unfold xAt at hxa
            split at hxa
            · exact List.mem_of_getElem? hxa
            · cases hxa
          have hX2b : ∀ ys ∈ X2, ∀ p ∈ ys, 0 ≤ p ∧ p < 1024 := by
            rw [← hX2, hput]
            intro ys hy p hp
            rcases List.mem_or_eq_of_mem_set hy with hy | rfl
            · exact hi.xb ys hy p hp
            · have := List.mem_of_mem_drop hp
              rcases List.mem_append.1 this with h | h
              · exact hi.xb xs hxm p h
              · have : p = th := by simpa using h
                omega
          have HI : Hid (ZFreeIs L X f cpu th 0 (bl2.foldl freeT L) X2 (fDel f th)) := .inr (.inr (.inr ⟨H9.out, tq, tc, HT.out, htq2, rfl, by rw [hbl2], hX2.symm, rfl⟩))
          have HPUT : Hid (∀ (M : List (Nat × Obj)) (w3 : World), Own W (nrBlocks 132 nb nl 6 Ln ++ M) w3 → Calls Try.prog 80 #[.pointer (some ⟨nb, 0, none⟩), .int .i64 cpu, .int .i64 th] w3 fun e w' => ∃ v bs L', e = .returned (.tuple #[v, .int .i64 0]) ∧ IntsOwn false v bl2 bs ∧ XsAre 6 L' X2 ∧ Own W (bs ++ (nrBlocks 132 nb nl 6 L' ++ M)) w') := fun M w3 h3 => by
            have := nput_spec h3 hi.nr (by have := congrArg List.length hi.nr.2; rw [List.length_map] at this; have := hi.x1; omega) cpu th
            unfold NPutPost at this
            rw [hbl2, hX2, he0] at this
            exact this
          have hwf : (Lit.int .i64 th).wf = true := wf_small g1 (by omega)
          have hmo := hr.perm (z_map _ _ _ _ _)
          have HWF := Lib.hid hwf
          have HII := Lib.hid hi
          have HX2L := Lib.hid hX2l
          have HX2B := Lib.hid hX2b
          obtain ⟨bT, hbT⟩ := hi.tab
          have TB := Lib.hid hbT
          clear hr hi hl2 g1 g2 g3 g4 g5 hxa hput hbl2 hX2 he0 hX2l hxm hX2b hwf hbT
          unfold tagV
          go_wp2_with (at_delete; refine wpList_mapDel rfl _ _ rfl rfl rfl HII.out.im hmo HWF.out ?_; intro es' w' k1 k2; have K1 := Lib.hid k1; clear k1; have k3 := k2.perm (z_map _ _ _ _ _).symm; clear y0 y1 y2 y3 y4 k2 q0 q1; obtain ⟨y0, y1, y2, y3, y4⟩ := zcells k3)
          have k4 := k3.perm (z_near _ _ _ _ _)
          refine (HPUT.out _ _ k4).mono ?_
          rintro e w5 ⟨v5, bs5, L5, rfl, o5, ok5, h5⟩
          obtain ⟨A5, c5, rfl, -, -⟩ := o5.slice
          have O5 := Lib.hid o5
          have OK5 := Lib.hid ok5
          clear y0 y1 y2 y3 y4
          obtain ⟨y0, y1, y2, y3, y4⟩ := zcells' h5 (List.mem_append_right _ (List.mem_append_right _ List.mem_cons_self))
          have h6 := h5.perm (List.Perm.append_left bs5 ((z_near _ _ _ _ _).symm.trans (z_bud _ _ _ _ _)))
          have hea := each_spec h6 O5.out HII.out.bud TB.out HII.out.l1 HII.out.l2
          have HEA := Lib.hid hea
          clear o5 ok5 hea k3 k4
          go_wp2_with fail
          refine HEA.out.mono ?_
          rintro e w7 ⟨bl7, rfl, hb7, h7⟩
          have hII2 : ZIs zb pb nb nl mb L X (fDel f th) n bl Ln es' ck (zBlk zb pb nb mb X.length L.length :: (mb, .map es' ck) :: (bl ++ nrBlocks 132 nb nl 6 Ln)) := ⟨HII.out.bud, HII.out.nr, K1.out, HII.out.tab, HII.out.l1, HII.out.l2, HII.out.x1, HII.out.xb, rfl⟩
          obtain ⟨zs7, hz7, h8⟩ := zeach_fin hII2 OK5.out HX2L.out HX2B.out hb7 h7
          have HZ7 := Lib.hid hz7
          clear hb7 hII2 hz7
          go_wp2_with fail
          go_ret
          exact ⟨0, _, X2, _, zs7, rfl, HI, HZ7, h8.drop1⟩
      · have HI : Hid (ZFreeIs L X f cpu page 60 L X f) := .inr (.inl ⟨H9.out, ⟨_, HT.out, fun h o c he => by simp only [Option.some.injEq, Prod.mk.injEq] at he; rw [← he.1]; exact hth⟩, rfl, rfl, rfl, rfl⟩)
        have hthb : (th != page) = true := bne_iff_ne.2 hth
        have HB := Lib.hid hb
        clear HT hb
        unfold tagV
        go_wp2_with fail
        go_ret
        exact ⟨60, L, X, f, zs, rfl, HI, HZ, HB.out.drop1⟩
end
end Go.Proofs.Ytljcndcmdphmgaa

/-
  Zones, in plain Lean: what is out, and near, when pages are given out and go back. No condition.
-/
namespace Go.Proofs.Ytljcndcmdphmgaa
open Go.RowKit
/-- Alloc leaves what is out as it is -/
theorem alloc_keep {L bs : List Pg} (hT : Tab L bs) {order a k : Nat} {c : Int} (hl : LeastIs L order a (order + k)) {q : Nat} {y : Pg} (hy : L[q]? = some y) (hk : y.1 = 2) : (allocL L a order k c)[q]? = some y := by
  obtain ⟨b1, b2, rfl, hb⟩ := tab_block hT hl.2.2.1 (fb_kind _)
  obtain ⟨-, hfit, -⟩ := tab_align hT hl.2.2.1 (fb_kind _)
  rw [fb_size] at hfit
  have hsz : pgSize ((2 : Int), (order : Int), c) = 2 ^ order := by show 2 ^ ((order : Nat) : Int).toNat = _; rw [Int.toNat_natCast]
  have hs := (split_eq a order (2, (order : Int), c) hsz k L hfit).1
  have hrl := rests_len order k
  have hla : a ≤ L.length := by omega
  unfold allocL
  rw [hs]
  by_cases h1 : q < a
  · rw [List.getElem?_append_left (by rw [List.length_take]; omega), List.getElem?_take, if_pos h1]
    exact hy
  · by_cases h2 : q < a + 2 ^ (order + k)
    · exfalso
      by_cases h3 : q = a
      · subst h3
        rw [hl.2.2.1] at hy
        cases hy
        simp [fb] at hk
      · have := tab_in hT (i := q) (by rw [hb]; omega) (by rw [hb, fb_size]; omega)
        rw [this] at hy
        cases hy
        simp [pgIn] at hk
    · have e : L.take a ++ (lay [(2, (order : Int), c)] ++ (lay (rests order k) ++ L.drop (a + 2 ^ (order + k)))) = (L.take a ++ (lay [(2, (order : Int), c)] ++ lay (rests order k))) ++ L.drop (a + 2 ^ (order + k)) := by simp
      have hl1 : (L.take a ++ (lay [(2, (order : Int), c)] ++ lay (rests order k))).length = a + 2 ^ (order + k) := by
        rw [List.length_append, List.length_append, List.length_take, lay_one_len, hsz]
        omega
      rw [e, List.getElem?_append_right (by omega), hl1, List.getElem?_drop]
      rw [show a + 2 ^ (order + k) + (q - (a + 2 ^ (order + k))) = q from by omega]
      exact hy
/-- Free leaves what else is out as it is -/
theorem free_keep {L bs : List Pg} (hT : Tab L bs) {p o : Nat} {c : Int} (hp : L[p]? = some (2, (o : Int), c)) {q : Nat} {y : Pg} (hy : L[q]? = some y) (hk : y.1 = 2) (hq : q ≠ p) : (freeL L p o)[q]? = some y := by
  obtain ⟨b1, b2, rfl, hb⟩ := tab_block hT hp (by simp)
  have hr := (row_append b1 _ 0).1 hT.2
  rw [Nat.zero_add, hb] at hr
  have hsz : pgSize ((2 : Int), (o : Int), c) = 2 ^ o := by show 2 ^ ((o : Nat) : Int).toNat = _; rw [Int.toNat_natCast]
  have ho := pgHead_order hr.2.1
  simp only at ho
  have hal := hr.2.2.1
  rw [hsz] at hal
  obtain ⟨b1', c1', c2', hT1, e1, e2, e3, e4, e5, e6, e7⟩ := join_tab (page := p) (o0 := o) (10 - o) p o b1 [(2, (o : Int), c)] b2 (by omega) (by simpa using hT) hb (by rw [lay_one_len, hsz]) hal (by simp [freeSum]) (by simp [outPl])
  have hll := tab_len hT1
  rw [lay_append, lay_append, List.length_append, List.length_append, e1, e2] at hll
  unfold freeL
  rw [pgPut_get (by rw [fb_size]; omega), fb_size]
  by_cases h1 : (bJoin L (10 - o) p o).1 ≤ q ∧ q < (bJoin L (10 - o) p o).1 + 2 ^ (bJoin L (10 - o) p o).2
  · exfalso
    -- q lies in the joined block: its block is one of c1'
    obtain ⟨d1, d2, hd, hdl⟩ := tab_block hT1 hy (by rw [hk]; simp)
    have hqo : q ∈ outPl 0 (b1' ++ (c1' ++ c2')) := by
      rw [hd, outPl_append, Nat.zero_add, hdl]
      refine List.mem_append_right _ ?_
      unfold outPl
      rw [if_pos hk]
      simp
    rw [outPl_append, outPl_append, Nat.zero_add, e1, e6, e2] at hqo
    have hb1 : ∀ (bs : List Pg) (i x : Nat), x ∈ outPl i bs → i ≤ x ∧ x < i + (lay bs).length := fun bs => by
      induction bs with
      | nil => intro i x h; simp [outPl] at h
      | cons y bs ih =>
        intro i x h
        have h2 := lay_cons_len y bs
        have h3 := pgSize_pos y
        unfold outPl at h
        rcases List.mem_append.1 h with h | h
        · split at h
          · simp at h; omega
          · simp at h
        · have := ih _ _ h
          omega
    rcases List.mem_append.1 hqo with h | h
    · have := (hb1 _ _ _ h).2
      omega
    · rcases List.mem_append.1 h with h | h
      · exact hq (by simpa using h)
      · have := (hb1 _ _ _ h).1
        omega
  · rw [if_neg (by have := Nat.two_pow_pos (bJoin L (10 - o) p o).2; omega), if_neg (by omega)]
    exact hy
/-- blocks that are out: what is listed, place and order -/
structure CInv (L : List Pg) (all : List (Int × Int)) (N : Nat) : Prop where
  b : BInv L (all.map (·.1))
  at_ : ∀ x ∈ all, 0 ≤ x.1 ∧ 0 ≤ x.2 ∧ ∃ c, L[x.1.toNat]? = some (2, x.2, c)
  len : L.length = N
  n1 : 1 ≤ N
  n2 : N ≤ 1024
  sum : pgFree L + (all.map fun x => (2 : Int) ^ x.2.toNat).sum = N
theorem binv_perm {L : List Pg} {a b : List Int} (h : BInv L a) (hp : b.Perm a) : BInv L b := by
  obtain ⟨bs, h1, h2, h3⟩ := h
  exact ⟨bs, h1, h2, hp.trans h3⟩
theorem isum_perm {a b : List Int} (h : a.Perm b) : a.sum = b.sum := by
  induction h with
  | nil => rfl
  | cons x _ ih => simp [ih]
  | swap x y l => simp only [List.sum_cons]; omega
  | trans _ _ ih1 ih2 => exact ih1.trans ih2
theorem CInv.perm {L : List Pg} {a b : List (Int × Int)} {N : Nat} (h : CInv L a N) (hp : b.Perm a) : CInv L b N :=
  ⟨binv_perm h.b (hp.map _), fun x hx => h.at_ x (hp.mem_iff.1 hx), h.len, h.n1, h.n2, by rw [isum_perm (hp.map _)]; exact h.sum⟩
theorem cinv_fresh {N : Nat} (h1 : 1 ≤ N) (h2 : N ≤ 1024) : CInv (freshL N) [] N :=
  ⟨binv_fresh N, fun x hx => (by cases hx), fresh_len N, h1, h2, by
    rw [pgFree_tab (fresh_tab N) (by rw [fresh_len]; exact h1) (by rw [fresh_len]; exact h2), fresh_sum]
    simp⟩
theorem outPl_bd : ∀ (bs : List Pg) (i x : Nat), x ∈ outPl i bs → i ≤ x ∧ x < i + (lay bs).length
  | [], i, x, h => by simp [outPl] at h
  | y :: bs, i, x, h => by
    have h2 := lay_cons_len y bs
    have h3 := pgSize_pos y
    unfold outPl at h
    rcases List.mem_append.1 h with h | h
    · split at h
      · simp at h; omega
      · simp at h
    · have := outPl_bd bs _ _ h
      omega
theorem outPl_nodup : ∀ (bs : List Pg) (i : Nat), (outPl i bs).Nodup
  | [], i => by simp [outPl]
  | y :: bs, i => by
    have h3 := pgSize_pos y
    unfold outPl
    rw [List.nodup_append]
    refine ⟨by split <;> simp, outPl_nodup bs _, fun a ha b hb => ?_⟩
    have := (outPl_bd bs _ _ hb).1
    split at ha
    · simp at ha; omega
    · simp at ha
theorem castL_nodup {l : List Nat} (h : l.Nodup) : (castL l).Nodup := by
  unfold castL List.Nodup
  rw [List.pairwise_map]
  exact h.imp fun h => by omega
theorem binv_nodup {L : List Pg} {out : List Int} (h : BInv L out) : out.Nodup := by
  obtain ⟨bs, -, -, hp⟩ := h
  exact hp.nodup_iff.2 (castL_nodup (outPl_nodup bs 0))
theorem pow_cast (o : Nat) : ((2 ^ o : Nat) : Int) = (2 : Int) ^ o := by push_cast; rfl
theorem c_alloc {L : List Pg} {all : List (Int × Int)} {N order a k : Nat} {c : Int} (h : CInv L all N) (hl : LeastIs L order a (order + k)) (hc : 0 ≤ c ∧ c ≤ 8) :
    CInv (allocL L a order k c) (all ++ [((a : Int), (order : Int))]) N ∧ pgFree (allocL L a order k c) = pgFree L - 2 ^ order ∧ (allocL L a order k c)[a]? = some (2, (order : Int), c) ∧ ∀ x ∈ all, (allocL L a order k c)[x.1.toNat]? = L[x.1.toNat]? := by
  obtain ⟨bs, hT⟩ := bInv_tab h.b
  obtain ⟨hI', hlen, hsum⟩ := binv_alloc h.b hl hc
  obtain ⟨bs', hT', hs⟩ := hsum _ hT
  have f1 := pgFree_tab hT (by rw [h.len]; exact h.n1) (by rw [h.len]; exact h.n2)
  have f2 := pgFree_tab hT' (by rw [hlen, h.len]; exact h.n1) (by rw [hlen, h.len]; exact h.n2)
  have hfr : pgFree (allocL L a order k c) = pgFree L - 2 ^ order := by rw [f1, f2]; omega
  have hkeep : ∀ x ∈ all, (allocL L a order k c)[x.1.toNat]? = L[x.1.toNat]? := fun x hx => by
    obtain ⟨-, -, d, hd⟩ := h.at_ x hx
    rw [alloc_keep hT hl hd rfl, hd]
  have hat : (allocL L a order k c)[a]? = some (2, (order : Int), c) := by
    obtain ⟨b1, b2, rfl, hb⟩ := tab_block hT hl.2.2.1 (fb_kind _)
    have := tab_at (alloc_tab hT hl.2.1 hc).1
    rw [hb] at this
    exact this
  refine ⟨⟨by simpa using hI', fun x hx => ?_, by rw [hlen]; exact h.len, h.n1, h.n2, ?_⟩, hfr, hat, hkeep⟩
  · rcases List.mem_append.1 hx with hx | hx
    · rw [hkeep x hx]; exact h.at_ x hx
    · simp only [List.mem_singleton] at hx
      subst hx
      exact ⟨by simp only; omega, by simp only; omega, c, by simpa using hat⟩
  · have := h.sum
    rw [hfr]
    simp only [List.map_append, List.sum_append, List.map_cons, List.map_nil, List.sum_cons, List.sum_nil, Int.toNat_natCast]
    omega
theorem freeT_at {L : List Pg} {p : Int} {o c : Int} (h0 : 0 ≤ p) (h : L[p.toNat]? = some (2, o, c)) : freeT L p = freeL L p.toNat o.toNat := by
  unfold freeT
  rw [h]
  simp [h0]
theorem c_free {L : List Pg} {all rest : List (Int × Int)} {N : Nat} {p o : Int} (h : CInv L all N) (hp : all.Perm ((p, o) :: rest)) :
    CInv (freeT L p) rest N ∧ pgFree (freeT L p) = pgFree L + 2 ^ o.toNat ∧ ∀ x ∈ rest, (freeT L p)[x.1.toNat]? = L[x.1.toNat]? := by
  have h' := h.perm hp.symm
  obtain ⟨hp0, ho0, c, hc⟩ := h'.at_ (p, o) List.mem_cons_self
  simp only at hp0 ho0 hc
  obtain ⟨q, rfl⟩ : ∃ q : Nat, p = q := ⟨p.toNat, by omega⟩
  obtain ⟨oo, rfl⟩ : ∃ oo : Nat, o = oo := ⟨o.toNat, by omega⟩
  rw [Int.toNat_natCast] at hc
  have e : freeT L (q : Int) = freeL L q oo := by
    rw [freeT_at (by omega) (by rw [Int.toNat_natCast]; exact hc), Int.toNat_natCast, Int.toNat_natCast]
  rw [e]
  obtain ⟨bs, hT⟩ := bInv_tab h.b
  have hb := h'.b
  obtain ⟨h1, h2, h3⟩ := binv_free hb hc (List.Perm.refl _)
  obtain ⟨bs', hT', hs⟩ := h3 _ hT
  have f1 := pgFree_tab hT (by rw [h.len]; exact h.n1) (by rw [h.len]; exact h.n2)
  have f2 := pgFree_tab hT' (by rw [h2, h.len]; exact h.n1) (by rw [h2, h.len]; exact h.n2)
  have hfr : pgFree (freeL L q oo) = pgFree L + 2 ^ oo := by rw [f1, f2, hs]
  have hnd := binv_nodup hb
  simp only [List.map_cons, List.nodup_cons] at hnd
  have hkeep : ∀ x ∈ rest, (freeL L q oo)[x.1.toNat]? = L[x.1.toNat]? := fun x hx => by
    obtain ⟨hx0, -, d, hd⟩ := h'.at_ x (List.mem_cons_of_mem _ hx)
    rw [free_keep hT hc hd rfl, hd]
    intro he
    apply hnd.1
    have : (q : Int) = x.1 := by omega
    rw [this]
    exact List.mem_map_of_mem (f := (·.1)) hx
  refine ⟨⟨h1, fun x hx => by rw [hkeep x hx]; exact h'.at_ x (List.mem_cons_of_mem _ hx), by rw [h2]; exact h.len, h.n1, h.n2, ?_⟩, by rw [hfr, Int.toNat_natCast], hkeep⟩
  have := h'.sum
  simp only [List.map_cons, List.sum_cons, Int.toNat_natCast] at this
  rw [hfr]
  omega
theorem c_frees {N : Nat} : ∀ (l : List Int) {L : List Pg} {all rest : List (Int × Int)}, CInv L all N → all.Perm (l.map (fun p => (p, (0 : Int))) ++ rest) →
    CInv (l.foldl freeT L) rest N ∧ pgFree (l.foldl freeT L) = pgFree L + (l.length : Int) ∧ ∀ x ∈ rest, (l.foldl freeT L)[x.1.toNat]? = L[x.1.toNat]?
  | [], L, all, rest, h, hp => ⟨h.perm (by simpa using hp.symm), by simp, fun x _ => rfl⟩
  | p :: l, L, all, rest, h, hp => by
    obtain ⟨h1, h2, h3⟩ := c_free h (p := p) (o := 0) (rest := l.map (fun p => (p, (0 : Int))) ++ rest) (by simpa using hp)
    obtain ⟨g1, g2, g3⟩ := c_frees l h1 (List.Perm.refl _)
    refine ⟨g1, ?_, fun x hx => ?_⟩
    · rw [List.foldl_cons, g2, h2]
      simp
      omega
    · rw [List.foldl_cons, g3 x hx, h3 x (List.mem_append_right _ hx)]
end Go.Proofs.Ytljcndcmdphmgaa

/-
  Zones, in plain Lean: the invariant of zones that are played. No condition.
-/
namespace Go.Proofs.Ytljcndcmdphmgaa
open Go.RowKit
def nearL (X : List (List Int)) : List (Int × Int) := X.flatten.map fun p => (p, (0 : Int))
structure ZInv (L : List Pg) (X : List (List Int)) (f : Int → Option Int) (out : List (Int × Int)) (N : Nat) : Prop where
  c : CInv L (out ++ nearL X) N
  f : ∀ p c, f p = some c → (p, (0 : Int)) ∈ out
  six : ∀ xs ∈ X, xs.length ≤ 6
def zLeftOf (L : List Pg) (X : List (List Int)) : Int := pgFree L + (nearAll X : Nat)
theorem nearAll_eq (X : List (List Int)) : nearAll X = X.flatten.length := rfl
theorem xAt_some {X : List (List Int)} {cpu : Int} {xs : List Int} (h : xAt X cpu = some xs) : 0 ≤ cpu ∧ X[cpu.toNat]? = some xs := by
  unfold xAt at h
  split at h
  · exact ⟨by assumption, h⟩
  · cases h
theorem flatten_set {X : List (List Int)} {i : Nat} {xs : List Int} (h : X[i]? = some xs) (ys : List Int) : ∃ A B, X.flatten = A ++ (xs ++ B) ∧ (X.set i ys).flatten = A ++ (ys ++ B) := by
  obtain ⟨hi, rfl⟩ := List.getElem?_eq_some_iff.1 h
  refine ⟨(X.take i).flatten, (X.drop (i + 1)).flatten, ?_, ?_⟩
  · conv => lhs; rw [← List.take_append_drop i X, List.drop_eq_getElem_cons hi, List.flatten_append, List.flatten_cons]
  · rw [List.set_eq_take_append_cons_drop, if_pos hi]
    simp
theorem map_nil_flat (X : List (List Int)) : (X.map fun _ => ([] : List Int)).flatten = [] := by
  rw [List.flatten_eq_nil_iff]
  intro l hl
  obtain ⟨_, _, rfl⟩ := List.mem_map.1 hl
  rfl
theorem getD_put (f : Int → Option Int) (p c d : Int) : (fPut f p c p).getD d = c := by simp [fPut]
/-- what a zone's Alloc makes of zones that are played -/
theorem zinv_alloc {L L' : List Pg} {X X' : List (List Int)} {f f' : Int → Option Int} {out : List (Int × Int)} {N : Nat} {cpu order cache p e : Int} (h : ZInv L X f out N) (hask : askE X.length cpu = 0) (hok : AllocOk order cache) (hz : ZAllocIs L X f cpu order cache p e L' X' f') :
    X'.length = X.length ∧
    ((e = 0 ∧ ZInv L' X' f' (out ++ [(p, order)]) N ∧ zLeftOf L' X' = zLeftOf L X - 2 ^ order.toNat ∧ ∃ c, L'[p.toNat]? = some (2, order, c) ∧ (f' p).getD c = cache) ∨
     (e = 7 ∧ p = 0 ∧ ZInv L' X' f' out N ∧ zLeftOf L' X' = zLeftOf L X ∧ NoneIs L' order.toNat ∧ X'.flatten = [])) := by
  have key : ∀ {L1 L2 : List Pg} {X1 : List (List Int)}, CInv L1 (out ++ nearL X1) N → (∀ xs ∈ X1, xs.length ≤ 6) → AllocIs L1 order cache p 0 L2 → f' = (if (0 : Int) = 0 ∧ order = 0 then fPut f p cache else f) →
      ZInv L2 X1 f' (out ++ [(p, order)]) N ∧ pgFree L2 = pgFree L1 - 2 ^ order.toNat ∧ ∃ c, L2[p.toNat]? = some (2, order, c) ∧ (f' p).getD c = cache := by
    intro L1 L2 X1 hc h6 hA hf
    rcases hA with ⟨hno, -⟩ | ⟨-, -, -, he, -⟩ | ⟨-, a, k, hl, rfl, -, rfl⟩
    · exact absurd hok hno
    · omega
    · obtain ⟨oo, rfl⟩ : ∃ oo : Nat, order = oo := ⟨order.toNat, by have := hok.1; omega⟩
      rw [Int.toNat_natCast] at hl
      obtain ⟨g1, g2, g3, -⟩ := c_alloc hc hl (c := cache) ⟨hok.2.2.1, hok.2.2.2⟩
      have hperm : ((out ++ [((a : Int), (oo : Int))]) ++ nearL X1).Perm (out ++ nearL X1 ++ [((a : Int), (oo : Int))]) := by
        rw [List.append_assoc, List.append_assoc]
        exact List.Perm.append_left _ List.perm_append_comm
      refine ⟨⟨g1.perm hperm, fun q d hq => ?_, h6⟩, by rw [Int.toNat_natCast]; exact g2, cache, by rw [Int.toNat_natCast, Int.toNat_natCast]; exact g3, ?_⟩
      · rw [hf] at hq
        split at hq
        · rename_i ho
          unfold fPut at hq
          split at hq
          · rename_i hqa
            refine List.mem_append_right _ ?_
            rw [hqa, ho.2]
            simp
          · exact List.mem_append_left _ (h.f q d hq)
        · exact List.mem_append_left _ (h.f q d hq)
      · rw [hf]
        split
        · exact getD_put _ _ _ _
        · have hn : f (a : Int) = none := by
            cases hfa : f (a : Int) with
            | none => rfl
            | some d =>
              exfalso
              have h1 := h.f _ _ hfa
              have h2 := binv_nodup (g1.perm hperm).b
              rw [List.map_append, List.map_append, List.append_assoc, List.nodup_append] at h2
              exact h2.2.2 (a : Int) (List.mem_map_of_mem (f := (·.1)) h1) (a : Int) (by simp) rfl
          rw [hn]
          rfl
  rcases hz with ⟨h9, -⟩ | ⟨-, hno, -⟩ | ⟨-, -, rfl, ht, rfl, rfl, rfl⟩ | ⟨-, -, hnt, hway, hf⟩
  · omega
  · exact absurd hok hno
  · have ht2 : (nTake X cpu).1.2 = true := by rw [ht]
    obtain ⟨xs, p', ys, hx, hxs, ht3⟩ := nTake_yes ht2
    rw [ht] at ht3
    simp only [Prod.mk.injEq, and_true] at ht3
    obtain ⟨rfl, rfl⟩ := ht3
    obtain ⟨hc0, hxi⟩ := xAt_some hx
    obtain ⟨A, B, e1, e2⟩ := flatten_set hxi ys
    have hperm : ((out ++ [(p, (0 : Int))]) ++ nearL (X.set cpu.toNat ys)).Perm (out ++ nearL X) := by
      unfold nearL
      rw [e1, e2, hxs, List.append_assoc]
      refine List.Perm.append_left _ ?_
      simp only [List.map_append, List.map_cons, List.append_assoc, List.singleton_append]
      rw [← List.append_assoc, ← List.append_assoc]
      exact List.perm_middle.symm
    have hc := h.c.perm hperm
    obtain ⟨-, -, c, hpc⟩ := h.c.at_ (p, 0) (hperm.mem_iff.1 (by simp))
    refine ⟨by simp, .inl ⟨rfl, ⟨hc, fun q d hq => ?_, fun zs hz => ?_⟩, ?_, c, hpc, getD_put _ _ _ _⟩⟩
    · unfold fPut at hq
      split at hq
      · rename_i hqa
        rw [hqa]; simp
      · exact List.mem_append_left _ (h.f q d hq)
    · rcases List.mem_or_eq_of_mem_set hz with hz | rfl
      · exact h.six zs hz
      · have := h.six xs (List.mem_of_getElem? hxi)
        rw [hxs] at this
        simp at this
        omega
    · unfold zLeftOf
      rw [nearAll_eq, nearAll_eq, e1, e2, hxs]
      simp
      omega
  · rcases hway with ⟨e1, hA, hns, rfl, hXX⟩ | ⟨p1, L1, hA1, hs, hA, rfl⟩
    · subst hXX
      have he : e = 0 ∨ e = 7 := by
        rcases hA with ⟨hno, -⟩ | ⟨-, -, -, he, -⟩ | ⟨-, a, k, -, -, he, -⟩
        · exact absurd hok hno
        · exact .inr he
        · exact .inl he
      rcases he with rfl | rfl
      · obtain ⟨g1, g2, g3⟩ := key h.c h.six hA hf
        exact ⟨rfl, .inl ⟨rfl, g1, by unfold zLeftOf; rw [g2]; omega, g3⟩⟩
      · have hsn : zSome X' = false := by
          cases hs : zSome X' with
          | false => rfl
          | true => exact absurd ⟨rfl, hs⟩ hns
        rcases hA with ⟨hno, -⟩ | ⟨-, hni, rfl, -, rfl⟩ | ⟨-, a, k, -, -, he, -⟩
        · exact absurd hok hno
        · rw [if_neg (by simp)] at hf
          subst hf
          exact ⟨rfl, .inr ⟨rfl, rfl, h, rfl, hni, (zSome_no hsn).1⟩⟩
        · omega
    · obtain ⟨q1, q2, -⟩ := c_frees X.flatten h.c (rest := out) (by unfold nearL; exact List.perm_append_comm)
      have hc1 : CInv (X.flatten.foldl freeT L) (out ++ nearL (X.map fun _ => [])) N := by
        unfold nearL
        rw [map_nil_flat]
        simpa using q1
      have h6 : ∀ xs ∈ X.map fun _ => ([] : List Int), xs.length ≤ 6 := fun xs hx => by
        obtain ⟨_, _, rfl⟩ := List.mem_map.1 hx
        simp
      have hna : nearAll (X.map fun _ => []) = 0 := by rw [nearAll_eq, map_nil_flat]; rfl
      have he : e = 0 ∨ e = 7 := by
        rcases hA with ⟨hno, -⟩ | ⟨-, -, -, he, -⟩ | ⟨-, a, k, -, -, he, -⟩
        · exact absurd hok hno
        · exact .inr he
        · exact .inl he
      refine ⟨by simp, ?_⟩
      rcases he with rfl | rfl
      · obtain ⟨g1, g2, g3⟩ := key hc1 h6 hA hf
        refine .inl ⟨rfl, g1, ?_, g3⟩
        unfold zLeftOf
        rw [g2, q2, hna, nearAll_eq]
        omega
      · rcases hA with ⟨hno, -⟩ | ⟨-, hni, rfl, -, rfl⟩ | ⟨-, a, k, -, -, he, -⟩
        · exact absurd hok hno
        · rw [if_neg (by simp)] at hf
          subst hf
          refine .inr ⟨rfl, rfl, ⟨hc1, h.f, h6⟩, ?_, hni, map_nil_flat X⟩
          unfold zLeftOf
          rw [q2, hna, nearAll_eq]
          omega
        · omega
theorem zinv_apart {L : List Pg} {X : List (List Int)} {f : Int → Option Int} {out : List (Int × Int)} {N : Nat} (h : ZInv L X f out N) {x : Int × Int} (hx : x ∈ out) : xHas X x.1 = false := by
  have h2 := binv_nodup h.c.b
  rw [List.map_append, List.nodup_append] at h2
  cases hb : xHas X x.1 with
  | false => rfl
  | true =>
    exfalso
    unfold xHas at hb
    rw [List.any_eq_true] at hb
    obtain ⟨xs, hxs, hm⟩ := hb
    have hm := of_decide_eq_true hm
    refine h2.2.2 x.1 (List.mem_map_of_mem (f := (·.1)) hx) x.1 ?_ rfl
    unfold nearL
    rw [List.map_map]
    exact List.mem_map.2 ⟨x.1, List.mem_flatten.2 ⟨xs, hxs, hm⟩, rfl⟩
/-- what Tag answers of a block that is out -/
theorem zinv_tag {L : List Pg} {X : List (List Int)} {f : Int → Option Int} {out : List (Int × Int)} {N : Nat} (h : ZInv L X f out N) {x : Int × Int} (hx : x ∈ out) {k : Int} (hk0 : x.1 ≤ k) (hk1 : k < x.1 + 2 ^ x.2.toNat) {t : Option (Int × Int × Int)} (ht : ZTagIs L X f k t) :
    ∃ c, L[x.1.toNat]? = some (2, x.2, c) ∧ t = some (x.1, x.2, (f x.1).getD c) := by
  obtain ⟨h0, ho, c, hc⟩ := h.c.at_ x (List.mem_append_left _ hx)
  obtain ⟨bs, hT⟩ := bInv_tab h.c.b
  have hal := tab_align hT hc (by simp)
  have hsz : pgSize ((2 : Int), x.2, c) = 2 ^ x.2.toNat := rfl
  rw [hsz] at hal
  have hpw := pow_cast x.2.toNat
  have hap := zinv_apart h hx
  rcases ht with ⟨hout, -⟩ | ⟨p, a, y, rfl, h1, h2, h3⟩
  · exfalso
    have := hal.2.1
    omega
  · have hb : BlkOf L p x.1.toNat (2, x.2, c) := ⟨hc, by simp, by omega, by rw [hsz]; omega⟩
    obtain ⟨rfl, rfl⟩ := blkOf_one hT h2 hb
    have hax : ((x.1.toNat : Nat) : Int) = x.1 := Int.toNat_of_nonneg h0
    rw [hax, hap] at h3
    rcases h3 with ⟨h3 | h3, -⟩ | ⟨-, -, h3⟩
    · exact absurd rfl h3
    · cases h3
    · exact ⟨c, hc, h3⟩
/-- .. and what is told is out -/
theorem zinv_told {L : List Pg} {X : List (List Int)} {f : Int → Option Int} {out : List (Int × Int)} {N : Nat} (h : ZInv L X f out N) {k : Int} {a o c : Int} (ht : ZTagIs L X f k (some (a, o, c))) : (a, o) ∈ out ∧ a ≤ k ∧ k < a + 2 ^ o.toNat := by
  rcases ht with ⟨-, ht⟩ | ⟨p, q, y, rfl, h1, h2, ⟨-, h3⟩ | ⟨h3, h4, h5⟩⟩
  · cases ht
  · cases h3
  · simp only [Option.some.injEq, Prod.mk.injEq] at h5
    obtain ⟨rfl, rfl, -⟩ := h5
    obtain ⟨g1, g2, g3, g4⟩ := h2
    obtain ⟨bs, hT, hN, hp⟩ := h.c.b
    obtain ⟨b1, b2, hd, hdl⟩ := tab_block hT g1 g2
    have hqo : q ∈ outPl 0 bs := by
      rw [hd, outPl_append, Nat.zero_add, hdl]
      refine List.mem_append_right _ ?_
      unfold outPl
      rw [if_pos h3]
      simp
    have hm : (q : Int) ∈ (out ++ nearL X).map (·.1) := hp.mem_iff.2 (List.mem_map_of_mem (f := fun n : Nat => (n : Int)) hqo)
    obtain ⟨x, hx, hxq⟩ := List.mem_map.1 hm
    obtain ⟨-, -, c', hc'⟩ := h.c.at_ x hx
    rw [hxq, Int.toNat_natCast, g1] at hc'
    have hy : y.2.1 = x.2 := by rw [Option.some.inj hc']
    rcases List.mem_append.1 hx with hx | hx
    · refine ⟨?_, by omega, ?_⟩
      · rw [hy, ← hxq]
        exact hx
      · have := pow_cast y.2.1.toNat
        unfold pgSize at g4
        omega
    · exfalso
      unfold nearL at hx
      obtain ⟨z, hz, rfl⟩ := List.mem_map.1 hx
      simp only at hxq
      subst hxq
      unfold xHas at h4
      rw [List.any_eq_false] at h4
      obtain ⟨xs, hxs, hzx⟩ := List.mem_flatten.1 hz
      exact h4 xs hxs (by simpa using hzx)
/-- Free of what is out -/
theorem zinv_free {L L' : List Pg} {X X' : List (List Int)} {f f' : Int → Option Int} {out out' : List (Int × Int)} {N : Nat} {cpu p o e : Int} (h : ZInv L X f out N) (hp : out.Perm ((p, o) :: out')) (hask : askE X.length cpu = 0) (hz : ZFreeIs L X f cpu p e L' X' f') :
    e = 0 ∧ X'.length = X.length ∧ ZInv L' X' f' out' N := by
  have hx : (p, o) ∈ out := hp.mem_iff.2 List.mem_cons_self
  obtain ⟨h0, ho, c, hc⟩ := h.c.at_ (p, o) (List.mem_append_left _ hx)
  simp only at h0 ho hc
  have hap := zinv_apart h hx
  simp only at hap
  have hall : (out ++ nearL X).Perm ((p, o) :: (out' ++ nearL X)) := (hp.append_right _)
  have htag : ∀ t, ZTagIs L X f p t → ∃ c, t = some (p, o, c) := fun t ht => by
    have hpos : (0 : Int) < 2 ^ o.toNat := by have := pow_cast o.toNat; have := Nat.two_pow_pos o.toNat; omega
    obtain ⟨c', -, h2⟩ := zinv_tag h hx (k := p) (Int.le_refl _) (by simp only; omega) ht
    exact ⟨_, h2⟩
  have hnd := binv_nodup h.c.b
  have hfd : ∀ q d, f q = some d → q ≠ p → (q, (0 : Int)) ∈ out' := fun q d hq hne => by
    have := hp.mem_iff.1 (h.f q d hq)
    rcases List.mem_cons.1 this with h1 | h1
    · simp only [Prod.mk.injEq] at h1
      exact absurd h1.1 hne
    · exact h1
  rcases hz with ⟨h9, -⟩ | ⟨-, ⟨t, ht, hne⟩, -⟩ | ⟨-, o', c', ht, ho', hB, rfl, rfl⟩ | ⟨-, o', c', ht, ho', rfl, rfl, rfl, rfl⟩
  · omega
  · obtain ⟨c', rfl⟩ := htag t ht
    exact absurd rfl (hne p o c' rfl)
  · obtain ⟨c2, h2⟩ := htag _ ht
    simp only [Option.some.injEq, Prod.mk.injEq, true_and] at h2
    obtain ⟨rfl, -⟩ := h2
    have hL := bfreeIs_T hB
    have he : e = 0 := by
      rcases hB with ⟨h1, -⟩ | ⟨q, oo, cc, -, -, he, -⟩
      · exact absurd rfl (h1 _ h0 hc)
      · exact he
    obtain ⟨g1, -, -⟩ := c_free h.c hall
    rw [← hL] at g1
    refine ⟨he, rfl, g1, fun q d hq => ?_, h.six⟩
    refine hfd q d hq ?_
    rintro rfl
    have h5 := h.f q d hq
    have h6 := hp.mem_iff.1 h5
    rcases List.mem_cons.1 h6 with h7 | h7
    · simp only [Prod.mk.injEq, true_and] at h7
      omega
    · have h8 := (hp.map (·.1)).nodup_iff.1 (by rw [List.map_append, List.nodup_append] at hnd; exact hnd.1)
      simp only [List.map_cons, List.nodup_cons] at h8
      exact h8.1 (List.mem_map_of_mem (f := (·.1)) h7)
  · obtain ⟨c2, h2⟩ := htag _ ht
    simp only [Option.some.injEq, Prod.mk.injEq, true_and] at h2
    obtain ⟨rfl, -⟩ := h2
    obtain rfl : o' = 0 := by omega
    have hcp : 0 ≤ cpu ∧ cpu < X.length := by
      rcases askE_cases X.length cpu with h1 | ⟨-, h1, h2⟩
      · omega
      · exact ⟨h1, h2⟩
    have hpl : p < 1024 := by
      have := (List.getElem?_eq_some_iff.1 hc).1
      have := h.c.len
      have := h.c.n2
      omega
    obtain ⟨xs, hxa, hput⟩ := nPut_ok (X := X) (cpu := cpu) (page := p) h0 hpl hap hcp.1 hcp.2
    rw [hput]
    simp only
    obtain ⟨-, hxi⟩ := xAt_some hxa
    obtain ⟨K, hK⟩ : ∃ K, nrK 6 (xs.length + 1) = K := ⟨_, rfl⟩
    rw [hK]
    obtain ⟨A, B, e1, e2⟩ := flatten_set hxi ((xs ++ [p]).drop K)
    have hx6 := h.six xs (List.mem_of_getElem? hxi)
    have hperm : (out ++ nearL X).Perm (((xs ++ [p]).take K).map (fun p => (p, (0 : Int))) ++ (out' ++ nearL (X.set cpu.toNat ((xs ++ [p]).drop K)))) := by
      refine (hp.append_right _).trans ?_
      have e3 : xs ++ [p] = (xs ++ [p]).take K ++ (xs ++ [p]).drop K := (List.take_append_drop _ _).symm
      unfold nearL
      rw [e1, e2]
      have p1 : ((p, (0 : Int)) :: out' ++ (A ++ (xs ++ B)).map fun p => (p, (0 : Int))).Perm (((xs ++ [p]).map fun p => (p, (0 : Int))) ++ (out' ++ (A ++ B).map fun p => (p, (0 : Int)))) := by
        simp only [List.map_append, List.map_cons, List.map_nil, List.cons_append, List.append_assoc, List.nil_append]
        refine ((List.perm_middle (l₁ := xs.map fun p => (p, (0 : Int)))).trans (List.Perm.cons _ ?_)).symm
        refine (perm_swap _ _ _).trans (List.Perm.append_left _ ?_)
        exact perm_swap _ _ _
      have p2 : (((xs ++ [p]).map fun p => (p, (0 : Int))) ++ (out' ++ (A ++ B).map fun p => (p, (0 : Int)))).Perm (((xs ++ [p]).take K).map (fun p => (p, (0 : Int))) ++ (out' ++ (A ++ ((xs ++ [p]).drop K ++ B)).map fun p => (p, (0 : Int)))) := by
        conv => lhs; rw [e3]
        simp only [List.map_append, List.append_assoc]
        refine List.Perm.append_left _ ?_
        refine (perm_swap _ _ _).trans (List.Perm.append_left _ ?_)
        exact perm_swap _ _ _
      exact p1.trans p2
    obtain ⟨g1, -, -⟩ := c_frees _ h.c hperm
    refine ⟨by first | rfl | trivial, by simp, g1, fun q d hq => ?_, fun ys hy => ?_⟩
    · unfold fDel at hq
      split at hq
      · cases hq
      · rename_i hne
        exact hfd q d hq hne
    · rcases List.mem_or_eq_of_mem_set hy with hy | rfl
      · exact h.six ys hy
      · rw [List.length_drop, ← hK]
        unfold nrK
        simp
        split <;> omega
/-- Drain -/
theorem zinv_drain {L L' : List Pg} {X X' : List (List Int)} {f : Int → Option Int} {out : List (Int × Int)} {N : Nat} {cpu e : Int} (h : ZInv L X f out N) (hask : askE X.length cpu = 0) (hz : ZDrainIs L X cpu e L' X') :
    e = 0 ∧ X' = X.set cpu.toNat [] ∧ ZInv L' X' f out N := by
  rcases hz with ⟨h9, -⟩ | ⟨-, rfl, rfl, rfl⟩
  · omega
  · have hcp : 0 ≤ cpu ∧ cpu < X.length := by
      rcases askE_cases X.length cpu with h1 | ⟨-, h1, h2⟩
      · omega
      · exact ⟨h1, h2⟩
    obtain ⟨xs, hx⟩ : ∃ xs, xAt X cpu = some xs := by
      unfold xAt
      rw [if_pos hcp.1]
      exact ⟨_, List.getElem?_eq_getElem (by omega)⟩
    obtain ⟨-, hxi⟩ := xAt_some hx
    have e0 : nDrain X cpu = (xs, X.set cpu.toNat []) := by unfold nDrain; rw [hx]
    rw [e0]
    obtain ⟨A, B, e1, e2⟩ := flatten_set hxi []
    have hperm : (out ++ nearL X).Perm (xs.map (fun p => (p, (0 : Int))) ++ (out ++ nearL (X.set cpu.toNat []))) := by
      unfold nearL
      rw [e1, e2]
      simp only [List.map_append, List.append_assoc, List.nil_append]
      refine (List.Perm.append_left _ (perm_swap _ _ _)).trans ?_
      exact perm_swap _ _ _
    obtain ⟨g1, -, -⟩ := c_frees _ h.c hperm
    refine ⟨by first | rfl | trivial, by first | rfl | trivial, g1, h.f, fun ys hy => ?_⟩
    rcases List.mem_or_eq_of_mem_set hy with hy | rfl
    · exact h.six ys hy
    · simp
end Go.Proofs.Ytljcndcmdphmgaa

/-
  wainscotlaw08.works answers true.
-/
namespace Go.Proofs.Ytljcndcmdphmgaa
open Go.RowKit
theorem allocIs_at {L L' : List Pg} {order : Nat} {c p e : Int} (h : AllocIs L order c p e L') (ok : AllocOk order c) {a k : Nat} {L1 : List Pg} (e1 : leastOf L (11 - order) order = some (a, order + k)) (e2 : allocL L a order k c = L1) : p = a ∧ e = 0 ∧ L' = L1 := by
  rcases h with ⟨h1, -⟩ | ⟨-, hno, -⟩ | ⟨-, a', k', hl, rfl, rfl, rfl⟩
  · exact absurd ok h1
  · rw [Int.toNat_natCast] at hno
    rw [leastOf_no _ order order rfl (Nat.le_refl _) hno] at e1
    cases e1
  · rw [Int.toNat_natCast] at hl ⊢
    rw [leastOf_is hl] at e1
    simp only [Option.some.injEq, Prod.mk.injEq] at e1
    obtain ⟨rfl, hk⟩ := e1
    obtain rfl : k' = k := by omega
    exact ⟨rfl, rfl, e2⟩
theorem allocIs_no {L L' : List Pg} {order : Nat} {c p e : Int} (h : AllocIs L order c p e L') (ok : AllocOk order c) (e1 : leastOf L (11 - order) order = none) : p = 0 ∧ e = 7 ∧ L' = L := by
  rcases h with ⟨h1, -⟩ | ⟨-, hno, h2⟩ | ⟨-, a', k', hl, rfl, rfl, rfl⟩
  · exact absurd ok h1
  · exact h2
  · rw [Int.toNat_natCast] at hl
    rw [leastOf_is hl] at e1
    cases e1
theorem zallocIs_at {L L' : List Pg} {X X' : List (List Int)} {f f' : Int → Option Int} {order : Nat} {cpu cache p e : Int} (h : ZAllocIs L X f cpu order cache p e L' X' f') (h0 : askE X.length cpu = 0) (ok : AllocOk order cache)
    (hnt : (order : Int) = 0 → nTake X cpu = ((0, false), X)) {a k : Nat} {L1 : List Pg} (e1 : leastOf L (11 - order) order = some (a, order + k)) (e2 : allocL L a order k cache = L1) :
    p = a ∧ e = 0 ∧ L' = L1 ∧ X' = X ∧ f' = if (order : Int) = 0 then fPut f a cache else f := by
  rcases h with ⟨h9, -⟩ | ⟨-, hno, -⟩ | ⟨-, -, ho, ht, -⟩ | ⟨-, -, -, ⟨e', hA, -, rfl, rfl⟩ | ⟨p1, L2, hA, -⟩, hf⟩
  · omega
  · exact absurd ok hno
  · rw [hnt ho] at ht
    cases ht
  · obtain ⟨rfl, rfl, rfl⟩ := allocIs_at hA ok e1 e2
    exact ⟨rfl, rfl, rfl, rfl, by rw [hf]; simp⟩
  · obtain ⟨-, h7, -⟩ := allocIs_at hA ok e1 e2
    omega
theorem zallocIs_drain {L L' : List Pg} {X X' : List (List Int)} {f f' : Int → Option Int} {order : Nat} {cpu cache p e : Int} (h : ZAllocIs L X f cpu order cache p e L' X' f') (h0 : askE X.length cpu = 0) (ok : AllocOk order cache)
    (hnt : 0 < order) (e0 : leastOf L (11 - order) order = none) (hs : zSome X = true) {a k : Nat} {L1 : List Pg} (e1 : leastOf (X.flatten.foldl freeT L) (11 - order) order = some (a, order + k)) (e2 : allocL (X.flatten.foldl freeT L) a order k cache = L1) :
    p = a ∧ e = 0 ∧ L' = L1 ∧ X' = X.map (fun _ => []) ∧ f' = f := by
  rcases h with ⟨h9, -⟩ | ⟨-, hno, -⟩ | ⟨-, -, ho, ht, -⟩ | ⟨-, -, -, ⟨e', hA, hns, rfl, rfl⟩ | ⟨p1, L2, -, -, hA, rfl⟩, hf⟩
  · omega
  · exact absurd ok hno
  · omega
  · obtain ⟨-, rfl, -⟩ := allocIs_no hA ok e0
    exact absurd ⟨rfl, hs⟩ hns
  · obtain ⟨rfl, rfl, rfl⟩ := allocIs_at hA ok e1 e2
    exact ⟨rfl, rfl, rfl, rfl, by rw [hf, if_neg (by omega)]⟩
theorem ztagIs_at {L bs : List Pg} {X : List (List Int)} {f : Int → Option Int} {p a : Nat} {x : Pg} {t : Option (Int × Int × Int)} (hT : Tab L bs) (h : ZTagIs L X f p t) (hb : BlkOf L p a x) (hx : x.1 = 2) (hh : xHas X a = false) : t = some ((a : Int), x.2.1, (f a).getD x.2.2) := by
  rcases h with ⟨hout, -⟩ | ⟨q, a', x', hq, h1, h2, h3⟩
  · exfalso
    obtain ⟨g1, g2, g3, g4⟩ := hb
    have := (tab_align hT g1 g2).2.1
    omega
  · obtain rfl : p = q := by omega
    obtain ⟨rfl, rfl⟩ := blkOf_one hT h2 hb
    rcases h3 with ⟨h3 | h3, -⟩ | ⟨-, -, h3⟩
    · exact absurd hx h3
    · rw [hh] at h3; cases h3
    · exact h3
def zw0 : List Pg := freshL 8
def zw1 : List Pg := allocL zw0 0 0 3 3
def zw2 : List Pg := allocL zw0 0 3 0 1
theorem zw_ok : pgCheck zw0 = 0 ∧ pgCheck zw1 = 0 ∧ pgCheck zw2 = 0 := by decide +kernel
theorem zw_a : leastOf zw0 11 0 = some (0, 0 + 3) ∧ leastOf zw1 8 3 = none ∧ List.foldl freeT zw1 [0] = zw0 ∧ leastOf zw0 8 3 = some (0, 3 + 0) := by decide +kernel
theorem zw_b : pgFree zw1 = 7 ∧ zw1 ≠ freshL zw1.length ∧ zw1[0]? = some (2, 0, 3) ∧ zw2[0]? = some (2, 3, 1) ∧ freeL zw2 0 3 = zw0 ∧ zw0.length = 8 ∧ zw1.length = 8 ∧ zw2.length = 8 := by decide +kernel
theorem zw_tab {L : List Pg} (h : pgCheck L = 0) : ∃ bs, Tab L bs := pgCheck_tab h
namespace law08
set_option maxRecDepth 100000 in
set_option maxHeartbeats 4000000 in
theorem works_spec {W : World} {m : List (Nat × Obj)} {w : World} (h : Own W m w) :
    Calls Try.prog 39 #[] w fun e w' => e = .returned (.bool true) ∧ Own W m w' := by
  go_enter Try.func39, Try.ntmps39
  go_wp2_with fail
  refine (znew_ok h 2 8 (by omega) (by omega) (by omega) (by omega)).mono ?_
  rintro e w1 ⟨zb, zs1, rfl, hz1, h1⟩
  have HZ1 : Hid (ZO zb zw0 [[], []] (fun _ => none) 0 zs1) := hz1
  clear hz1
  go_wp2_with fail
  refine (zalloc_spec h1 HZ1.out (by omega) 0 0 3).mono ?_
  rintro e w2 ⟨p2, e2, L2, X2, f2, zs2, rfl, HI2, HZ2, h2⟩
  obtain ⟨rfl, rfl, rfl, rfl, hf2⟩ := zallocIs_at (order := 0) HI2.out (by decide) ⟨by omega, by omega, by omega, by omega⟩ (fun _ => by decide) zw_a.1 (L1 := zw1) rfl
  rw [if_pos (by decide)] at hf2
  subst hf2
  go_wp2_with fail
  refine (ztag_spec h2 HZ2.out 0).mono ?_
  rintro e w3 ⟨t3, rfl, HT3, h3⟩
  obtain ⟨bs1, hT1⟩ := zw_tab zw_ok.2.1
  obtain rfl := ztagIs_at (p := 0) (a := 0) (x := (2, 0, 3)) hT1 HT3.out ⟨zw_b.2.2.1, by decide, by decide, by decide⟩ rfl (by decide)
  clear hT1 bs1
  have g3 : ((fPut (fun _ => none) ((0 : Nat) : Int) 3) ((0 : Nat) : Int)).getD 3 = 3 := by simp [fPut]
  simp only [tagV, g3]
  go_wp2_with fail
  refine (zleft_spec (h3.alloc _) HZ2.out).mono ?_
  rintro e w4 ⟨rfl, h4⟩
  rw [zw_b.1, show nearAll [[], []] = 0 from rfl]
  go_wp2_with fail
  refine (zfree_spec h4 HZ2.out 1 0).mono ?_
  rintro e w5 ⟨e5, L5, X5, f5, zs5, rfl, HI5, HZ5, h5⟩
  have h5i : e5 = 0 ∧ L5 = zw1 ∧ X5 = [[], [0]] ∧ f5 = fDel (fPut (fun _ => none) ((0 : Nat) : Int) 3) 0 := by
    obtain ⟨bs1, hT1⟩ := zw_tab zw_ok.2.1
    have ht : ∀ t, ZTagIs zw1 [[], []] _ 0 t → t = some (0, 0, 3) := fun t ht => by
      have := ztagIs_at (p := 0) (a := 0) (x := (2, 0, 3)) hT1 ht ⟨zw_b.2.2.1, by decide, by decide, by decide⟩ rfl (by decide)
      rw [g3] at this
      exact this
    rcases HI5.out with ⟨h9, -⟩ | ⟨-, ⟨t, ht', hne⟩, -⟩ | ⟨-, o', c', ht', ho', -⟩ | ⟨-, o', c', ht', ho', g1, g2, g3, g4⟩
    · exact absurd h9 (by decide)
    · rw [ht t ht'] at hne
      exact absurd rfl (hne 0 0 3 rfl)
    · have := ht _ ht'
      simp only [Option.some.injEq, Prod.mk.injEq] at this
      omega
    · exact ⟨g1, by rw [g2]; rfl, by rw [g3]; decide, g4⟩
  obtain ⟨rfl, rfl, rfl, rfl⟩ := h5i
  go_wp2_with fail
  refine (znear_spec h5 HZ5.out 1).mono ?_
  rintro e w6 ⟨rfl, h6⟩
  rw [show (nList [[], [0]] 1).length = 1 from by decide]
  go_wp2_with fail
  refine (zleft_spec h6 HZ5.out).mono ?_
  rintro e w7 ⟨rfl, h7⟩
  rw [zw_b.1, show nearAll [[], [0]] = 1 from rfl]
  go_wp2_with fail
  refine (zwhole_spec h7 HZ5.out).mono ?_
  rintro e w8 ⟨rfl, h8⟩
  rw [decide_eq_false zw_b.2.1]
  go_wp2_with fail
  refine (zalloc_spec h8 HZ5.out (by omega) 0 3 1).mono ?_
  rintro e w9 ⟨p9, e9, L9, X9, f9, zs9, rfl, HI9, HZ9, h9⟩
  have hfl : List.foldl freeT zw1 ([[], [0]] : List (List Int)).flatten = zw0 := zw_a.2.2.1
  obtain ⟨rfl, rfl, rfl, rfl, rfl⟩ := zallocIs_drain (order := 3) HI9.out (by decide) ⟨by omega, by omega, by omega, by omega⟩ (by decide) zw_a.2.1 (by decide) (a := 0) (k := 0) (L1 := zw2) (by rw [hfl]; exact zw_a.2.2.2) (by rw [hfl]; rfl)
  go_wp2_with fail
  refine (znear_spec h9 HZ9.out 1).mono ?_
  rintro e w10 ⟨rfl, h10⟩
  rw [show (nList (([[], [0]] : List (List Int)).map fun _ => []) 1).length = 0 from by decide]
  go_wp2_with fail
  refine (ztag_spec h10 HZ9.out 5).mono ?_
  rintro e w11 ⟨t11, rfl, HT11, h11⟩
  obtain ⟨bs2, hT2⟩ := zw_tab zw_ok.2.2
  have hb2 : ∀ q : Nat, q < 8 → BlkOf zw2 q 0 (2, 3, 1) := fun q hq => ⟨zw_b.2.2.2.1, by decide, by omega, by show q < 0 + 8; omega⟩
  have HB2 := Lib.hid hb2
  have HTT := Lib.hid hT2
  have ht11 := ztagIs_at (p := 5) (a := 0) (x := (2, 3, 1)) hT2 HT11.out (hb2 5 (by omega)) rfl (by decide)
  clear hT2 hb2
  rw [show ((fDel (fPut (fun _ => none) ((0 : Nat) : Int) 3) 0) ((0 : Nat) : Int)).getD 1 = 1 from by simp [fDel]] at ht11
  subst ht11
  simp only [tagV]
  go_wp2_with fail
  refine (zfree_spec (h11.alloc _) HZ9.out 0 5).mono ?_
  rintro e w12 ⟨e12, L12, X12, f12, zs12, rfl, HI12, HZ12, h12⟩
  have h12i : e12 = 60 ∧ L12 = zw2 ∧ X12 = [[], []] := by
    have ht : ∀ t, ZTagIs zw2 (([[], [0]] : List (List Int)).map fun _ => []) (fDel (fPut (fun _ => none) ((0 : Nat) : Int) 3) 0) 5 t → ∃ c, t = some (0, 3, c) := fun t ht => ⟨_, ztagIs_at (p := 5) (a := 0) (x := (2, 3, 1)) HTT.out ht (HB2.out 5 (by omega)) rfl (by decide)⟩
    rcases HI12.out with ⟨h9, -⟩ | ⟨-, -, g1, g2, g3, -⟩ | ⟨-, o', c', ht', -⟩ | ⟨-, o', c', ht', -⟩
    · exact absurd h9 (by decide)
    · exact ⟨g1, g2, g3⟩
    · obtain ⟨c, hc⟩ := ht _ ht'
      simp only [Option.some.injEq, Prod.mk.injEq] at hc
      omega
    · obtain ⟨c, hc⟩ := ht _ ht'
      simp only [Option.some.injEq, Prod.mk.injEq] at hc
      omega
  obtain ⟨rfl, rfl, rfl⟩ := h12i
  go_wp2_with fail
  refine (zfree_spec h12 HZ12.out 0 0).mono ?_
  rintro e w13 ⟨e13, L13, X13, f13, zs13, rfl, HI13, HZ13, h13⟩
  have h13i : e13 = 0 ∧ L13 = zw0 ∧ X13 = [[], []] := by
    have ht : ∀ t, ZTagIs zw2 [[], []] f12 0 t → ∃ c, t = some (0, 3, c) := fun t ht => ⟨_, ztagIs_at (p := 0) (a := 0) (x := (2, 3, 1)) HTT.out ht (HB2.out 0 (by omega)) rfl (by decide)⟩
    rcases HI13.out with ⟨h9, -⟩ | ⟨-, ⟨t, ht', hne⟩, -⟩ | ⟨-, o', c', ht', ho', hB, g3, -⟩ | ⟨-, o', c', ht', ho', -⟩
    · exact absurd h9 (by decide)
    · obtain ⟨c, rfl⟩ := ht t ht'
      exact absurd rfl (hne 0 3 c rfl)
    · obtain ⟨rfl, rfl⟩ := bfreeIs_one hB (L2 := zw0) (f := 0) (.inr ⟨0, 3, 1, rfl, zw_b.2.2.2.1, rfl, zw_b.2.2.2.2.1.symm⟩)
      exact ⟨rfl, rfl, g3⟩
    · obtain ⟨c, hc⟩ := ht _ ht'
      simp only [Option.some.injEq, Prod.mk.injEq] at hc
      omega
  obtain ⟨rfl, rfl, rfl⟩ := h13i
  go_wp2_with fail
  refine (zwhole_spec h13 HZ13.out).mono ?_
  rintro e w14 ⟨rfl, h14⟩
  rw [decide_eq_true (show zw0 = freshL zw0.length from by rw [zw_b.2.2.2.2.2.1]; rfl)]
  go_wp2_with fail
  go_ret
  exact ⟨rfl, h14.dropL⟩
end law08
end Go.Proofs.Ytljcndcmdphmgaa

/-
  Zones that are played: the invariant in the walk's words; slices of pairs. No condition.
-/
namespace Go.Proofs.Ytljcndcmdphmgaa
open Go.RowKit
theorem pair_info : (Try.prog.info? 78).map (fun i => (i.zero, i.size, i.bytes)) = some (some (.agg #[.int .i64 0, .int .i64 0]), 2, 16) := by kernel_rfl
def flat2 : List (Int × Int) → List Int
  | [] => []
  | p :: l => p.1 :: p.2 :: flat2 l
theorem flat2_len : ∀ l, (flat2 l).length = l.length * 2
  | [] => rfl
  | p :: l => by simp [flat2, flat2_len l]; omega
theorem flat2_get : ∀ {l : List (Int × Int)} {j : Nat} {p : Int × Int}, l[j]? = some p → (flat2 l)[j * 2]? = some p.1 ∧ (flat2 l)[j * 2 + 1]? = some p.2
  | [], j, p, h => by simp at h
  | q :: l, 0, p, h => by
    simp at h
    subst h
    simp [flat2]
  | q :: l, j + 1, p, h => by
    have := flat2_get (l := l) (j := j) (p := p) (by simpa using h)
    rw [show (j + 1) * 2 = j * 2 + 1 + 1 from by omega]
    simpa [flat2] using this
theorem flat2_append : ∀ (a b : List (Int × Int)), flat2 (a ++ b) = flat2 a ++ flat2 b
  | [], b => rfl
  | p :: a, b => by simp [flat2, flat2_append a b]
theorem flat2_set : ∀ (l : List (Int × Int)) (j : Nat) (p : Int × Int), flat2 (l.set j p) = ((flat2 l).set (j * 2) p.1).set (j * 2 + 1) p.2
  | [], j, p => by simp [flat2]
  | q :: l, 0, p => by simp [flat2]
  | q :: l, j + 1, p => by
    rw [show (j + 1) * 2 = j * 2 + 1 + 1 from by omega]
    simp [flat2, flat2_set l j p]
theorem flat2_take : ∀ (l : List (Int × Int)) (k : Nat), flat2 (l.take k) = (flat2 l).take (k * 2)
  | [], k => by simp [flat2]
  | q :: l, 0 => by simp [flat2]
  | q :: l, k + 1 => by
    rw [show (k + 1) * 2 = k * 2 + 1 + 1 from by omega]
    simp [flat2, flat2_take l k]
abbrev PrO (ex : Bool) (v : Value) (L : List (Int × Int)) (bs : List (Nat × Obj)) : Prop := SlO ex 78 2 v L.length (ints (flat2 L)) bs
section
variable {W w : World} {m bs : List (Nat × Obj)} {v : Value} {L : List (Int × Int)} {ex : Bool}
theorem pr_cells (hs : PrO ex v L bs) (hO : Own W (bs ++ m) w) {g cap n : Nat} (hv : v = .slice (some ⟨g, 0, none⟩) n cap) (hn : n = L.length) {j : Nat} {p : Int × Int} (hj : L[j]? = some p) :
    w.cell? ⟨g, j * 2, none⟩ = some (.int .i64 p.1) ∧ w.cell? ⟨g, j * 2 + 1, none⟩ = some (.int .i64 p.2) ∧ w.frozen? ⟨g, j * 2, none⟩ = false ∧ w.frozen? ⟨g, j * 2 + 1, none⟩ = false := by
  subst hn
  obtain ⟨f0, f1⟩ := flat2_get hj
  exact ⟨hs.cell hO hv (ints_get f0), hs.cell hO hv (ints_get f1), hs.free hO hv _, hs.free hO hv _⟩
theorem pr_store (hs : PrO ex v L bs) (hO : Own W (bs ++ m) w) {g cap n : Nat} (hv : v = .slice (some ⟨g, 0, none⟩) n cap) (hn : n = L.length) {j : Nat} (hj : j < L.length) (p : Int × Int) :
    ∃ bs', PrO ex v (L.set j p) bs' ∧ Own W (bs' ++ m) ((w.setCell ⟨g, j * 2, none⟩ (.int .i64 p.1)).setCell ⟨g, j * 2 + 1, none⟩ (.int .i64 p.2)) := by
  subst hn
  obtain ⟨b1, h1, o1⟩ := SlO.store hs hO hv (j := j * 2) (by omega) (.int .i64 p.1)
  obtain ⟨b2, h2, o2⟩ := SlO.store h1 o1 hv (j := j * 2 + 1) (by omega) (.int .i64 p.2)
  refine ⟨b2, ?_, o2⟩
  rw [ints_set, ints_set, ← flat2_set] at h2
  unfold PrO
  rw [List.length_set]
  exact h2
theorem pr_app {ops : Array Oper} {rest : List Oper} {o : Oper} {a : Act} {Q : Exit → Act → World → Prop} {bs : List (Nat × Obj)} {X : List (Int × Int)} (hgd : o.guard = none) (s x : Operand)
    (ho : o.op = .call { callee := .builtin .append, args := #[s, x], argTypes := #[74, 74] }) {v xv : Value} (hes : a.eval s = v) (hex : a.eval x = xv)
    (hs : PrO true v X bs) (hO : Own W (bs ++ m) w) (p : Int × Int) (hx : Src w 2 xv 1 (ints [p.1, p.2])) (hlen : X.length ≤ 50000)
    (h : ∀ v' w' bs', PrO true v' (X ++ [p]) bs' → Own W (bs' ++ m) w' → wpList Try.prog ops Q rest (a.put o.dst v') w') :
    wpList Try.prog ops Q (o :: rest) a w := by
  refine wpList_app_dos hgd s x 74 ho hes hex _ pair_info Try.underlying74 rfl (by omega) (by omega) hs hO hx (by omega) fun v' w' bs' h1 h2 => h v' w' bs' ?_ h2
  unfold PrO
  rw [List.length_append, flat2_append]
  exact h1
theorem pr_src (w : World) (p : Int × Int) : Src (w.alloc (.cells #[.int .i64 p.1, .int .i64 p.2] 78)) 2 (.slice (some ⟨w.heap.size, 0, none⟩) 1 1) 1 (ints [p.1, p.2]) := src_lit w 78 2 1 [p.1, p.2] rfl
theorem perm_out2 {l : List (Int × Int)} {k : Nat} {x y : Int × Int} (hk : l[k]? = some x) (hy : l[l.length - 1]? = some y) : l.Perm (x :: (l.set k y).take (l.length - 1)) := by
  have hlt := (List.getElem?_eq_some_iff.1 hk).1
  have hne : l ≠ [] := by intro h; rw [h] at hlt; simp at hlt
  obtain ⟨i, z, rfl⟩ : ∃ i z, l = i ++ [z] := ⟨l.dropLast, l.getLast hne, (List.dropLast_concat_getLast hne).symm⟩
  have hz : y = z := by simp at hy; exact hy.symm
  subst hz
  rw [List.length_append, List.length_singleton, Nat.add_sub_cancel]
  by_cases h : k = i.length
  · subst h
    simp at hk
    subst hk
    rw [List.set_append_right _ _ (by omega)]
    simp
  · have hki : k < i.length := by rw [List.length_append, List.length_singleton] at hlt; omega
    rw [List.getElem?_append_left hki] at hk
    rw [List.set_append_left _ _ hki, List.take_left' (by simp)]
    obtain ⟨h1, rfl⟩ := List.getElem?_eq_some_iff.1 hk
    refine (List.perm_append_singleton _ _).trans ?_
    have h2 : i = i.take k ++ i[k] :: i.drop (k + 1) := by rw [List.getElem_cons_drop, List.take_append_drop]
    have h3 : i.set k y = i.take k ++ y :: i.drop (k + 1) := by rw [List.set_eq_take_append_cons_drop, if_pos hki]
    rw [h3]
    conv => lhs; rw [h2]
    refine (List.Perm.cons y (List.perm_middle)).trans ?_
    refine (List.Perm.swap _ _ _).trans ?_
    exact List.Perm.cons _ List.perm_middle.symm
end
section
variable {W w : World} {m zs : List (Nat × Obj)} {zb N n : Nat} {out : List (Int × Int)}
/-- a zone of three processors that is played -/
def ZAt (zb : Nat) (out : List (Int × Int)) (N n : Nat) (zs : List (Nat × Obj)) : Prop := ∃ L X f, ZO zb L X f n zs ∧ ZInv L X f out N ∧ X.length = 3
theorem ask3 {C : Nat} (hC : C = 3) {cpu : Int} (h0 : 0 ≤ cpu) (h3 : cpu < 3) : askE C cpu = 0 := by
  subst hC
  unfold askE
  rw [if_neg (by omega)]
theorem zat_new (h : Own W m w) (N : Nat) (n1 : 1 ≤ N) (n2 : N ≤ 1024) :
    Calls Try.prog 35 #[.int .i64 3, .int .i64 N] w fun e w' => ∃ zb zs, e = .returned (.tuple #[.pointer (some ⟨zb, 0, none⟩), .int .i64 0]) ∧ Hid (ZAt zb [] N 0 zs) ∧ Own W (zs ++ m) w' := by
  refine (znew_ok h 3 N (by omega) (by omega) n1 n2).mono ?_
  rintro e w' ⟨zb, zs, rfl, hz, h1⟩
  refine ⟨zb, zs, rfl, ⟨_, _, _, hz, ⟨?_, fun p c h => (by cases h), fun xs hx => ?_⟩, by simp⟩, h1⟩
  · have : nearL (List.replicate 3 []) = [] := rfl
    rw [this]
    exact cinv_fresh n1 n2
  · rw [List.eq_of_mem_replicate hx]
    simp
theorem zat_alloc (h : Own W (zs ++ m) w) (hz : ZAt zb out N n zs) (hn : n < 100000) (cpu order cache : Int) (c0 : 0 ≤ cpu) (c3 : cpu < 3) (hok : AllocOk order cache) :
    Calls Try.prog 47 #[.pointer (some ⟨zb, 0, none⟩), .int .i64 cpu, .int .i64 order, .int .i64 cache] w fun e w' => ∃ p er zs', e = .returned (.tuple #[.int .i64 p, .int .i64 er]) ∧
      ((er = 7 ∧ Hid (ZAt zb out N (n + 1) zs')) ∨ (er = 0 ∧ Hid (ZAt zb (out ++ [(p, order)]) N (n + 1) zs'))) ∧ Own W (zs' ++ m) w' := by
  obtain ⟨L, X, f, ho, hi, h3⟩ := hz
  refine (zalloc_spec h ho hn cpu order cache).mono ?_
  rintro x w' ⟨p, e, L', X', f', zs', rfl, HI, HZ, h1⟩
  obtain ⟨hl, ⟨rfl, g1, -⟩ | ⟨rfl, -, g1, -⟩⟩ := zinv_alloc hi (ask3 h3 c0 c3) hok HI.out
  · exact ⟨p, 0, zs', rfl, .inr ⟨rfl, ⟨_, _, _, HZ.out, g1, hl.trans h3⟩⟩, h1⟩
  · exact ⟨p, 7, zs', rfl, .inl ⟨rfl, ⟨_, _, _, HZ.out, g1, hl.trans h3⟩⟩, h1⟩
theorem zat_free (h : Own W (zs ++ m) w) (hz : ZAt zb out N n zs) (cpu : Int) (c0 : 0 ≤ cpu) (c3 : cpu < 3) {k : Nat} {x : Int × Int} (hk : out[k]? = some x) :
    Calls Try.prog 43 #[.pointer (some ⟨zb, 0, none⟩), .int .i64 cpu, .int .i64 x.1] w fun e w' => ∃ zs', e = .returned (.int .i64 0) ∧
      Hid (∀ out', out.Perm (x :: out') → ZAt zb out' N n zs') ∧ Own W (zs' ++ m) w' := by
  obtain ⟨L, X, f, ho, hi, h3⟩ := hz
  obtain ⟨p, o⟩ := x
  refine (zfree_spec h ho cpu p).mono ?_
  rintro x w' ⟨e, L', X', f', zs', rfl, HI, HZ, h1⟩
  obtain ⟨out0, hp0⟩ : ∃ out', out.Perm ((p, o) :: out') := ⟨_, List.perm_cons_erase (List.mem_of_getElem? hk)⟩
  obtain ⟨rfl, hl, -⟩ := zinv_free hi hp0 (ask3 h3 c0 c3) HI.out
  exact ⟨zs', rfl, fun out' hp => ⟨_, _, _, HZ.out, (zinv_free hi hp (ask3 h3 c0 c3) HI.out).2.2, hl.trans h3⟩, h1⟩
theorem zat_drain (h : Own W (zs ++ m) w) (hz : ZAt zb out N n zs) (cpu : Int) (c0 : 0 ≤ cpu) (c3 : cpu < 3) :
    Calls Try.prog 45 #[.pointer (some ⟨zb, 0, none⟩), .int .i64 cpu] w fun e w' => ∃ zs', e = .returned (.int .i64 0) ∧ Hid (ZAt zb out N n zs') ∧ Own W (zs' ++ m) w' := by
  obtain ⟨L, X, f, ho, hi, h3⟩ := hz
  refine (zdrain_spec h ho cpu).mono ?_
  rintro x w' ⟨e, L', X', zs', rfl, HI, HZ, h1⟩
  obtain ⟨rfl, hl, g1⟩ := zinv_drain hi (ask3 h3 c0 c3) HI.out
  exact ⟨zs', rfl, ⟨_, _, _, HZ.out, g1, by rw [hl, List.length_set]; exact h3⟩, h1⟩
theorem ZAt.up {n' : Nat} (h : ZAt zb out N n zs) (hn : n ≤ n') : ZAt zb out N n' zs := by
  obtain ⟨L, X, f, ho, hi, h3⟩ := h
  exact ⟨L, X, f, ho.up hn, hi, h3⟩
end
end Go.Proofs.Ytljcndcmdphmgaa
