import Derived.Test.YtljcndcmdphmgaaZmRzA
import Derived.Test.YtljcndcmdphmgaaZm10
/-
  The reference's zones: Drain, Left, Whole, out. No condition.
-/
namespace Go.Proofs.Ytljcndcmdphmgaa
open Go.RowKit
attribute [local go_sem ↓] Go.wp_at_zero Go.wp_at_succ
section
variable {W w : World} {m zs : List (Nat × Obj)} {qb : Nat} {L : List Pg} {X : List (List Int)}
theorem q_fin {rb nb nl : Nat} {bl bl2 : List (Nat × Obj)} {Ln L1 : List NL} {w2 : World} {X1 : List (List Int)} {L' : List Pg} (hi : QIs qb rb nb nl L X bl Ln zs) (ok1 : XsAre 6 L1 X1) (hx : X1.length = X.length) (hxb : ∀ xs ∈ X1, ∀ p ∈ xs, 0 ≤ p ∧ p < 1024)
    (hb2 : RdO rb L' bl2) (ht : ∃ bs', Tab L' bs') (hl : L'.length = L.length) (h2 : Own W (bl2 ++ (qBlk qb rb nb :: (nrBlocks 134 nb nl 6 L1 ++ m))) w2) : ∃ zs2, QO qb L' X1 zs2 ∧ Own W (zs2 ++ m) w2 :=
  ⟨_, ⟨rb, nb, nl, bl2, L1, ⟨hb2, ok1, ht, by rw [hl]; exact hi.l1, by rw [hl]; exact hi.l2, by rw [hx]; exact hi.x1, hxb, rfl⟩⟩, h2.perm (q_bud _ _ _ _).symm⟩
set_option maxHeartbeats 2000000 in
theorem qdrain_spec (h : Own W (zs ++ m) w) (hq : QO qb L X zs) (cpu : Int) :
    Calls Try.prog 70 #[.pointer (some ⟨qb, 0, none⟩), .int .i64 cpu] w fun x w' => ∃ e L' X' zs', x = .returned (.int .i64 e) ∧ Hid (ZDrainIs L X cpu e L' X') ∧ Hid (QO qb L' X' zs') ∧ Own W (zs' ++ m) w' := by
  have HQ := Lib.hid hq
  have hask := qhas_spec h hq cpu
  rcases askE_cases X.length cpu with h9 | ⟨h9, hc0, hc1⟩
  · have HI : Hid (ZDrainIs L X cpu 9 L X) := .inl ⟨h9, rfl, rfl, rfl⟩
    rw [h9] at hask
    have HASK := Lib.hid hask
    clear h9 hask hq
    go_enter Try.func70, Try.ntmps70
    go_wp2_with fail
    refine HASK.out.mono ?_
    rintro e w1 ⟨rfl, rfl⟩
    go_wp2_with fail
    go_ret
    exact ⟨9, L, X, zs, rfl, HI, HQ, h⟩
  · have HI : Hid (ZDrainIs L X cpu 0 ((nDrain X cpu).1.foldl freeT L) (nDrain X cpu).2) := .inr ⟨h9, rfl, rfl, rfl⟩
    rw [h9] at hask
    obtain ⟨rb, nb, nl, bl, Ln, hi⟩ := id hq
    have ho := hi.own h
    obtain ⟨c0, c1⟩ := qcells ho List.mem_cons_self
    have hnr := ho.perm (q_near _ _ _ _)
    obtain ⟨xs, hxs⟩ : ∃ xs, (nDrain X cpu).1 = xs := ⟨_, rfl⟩
    obtain ⟨X1, hX1⟩ : ∃ X1, (nDrain X cpu).2 = X1 := ⟨_, rfl⟩
    have hxb := nDrain_xb (cpu := cpu) hi.xb
    have hxl := nDrain_len X cpu
    rw [hxs, hX1] at HI
    rw [hX1] at hxb hxl
    have hdr := rdrain_spec hnr hi.nr cpu
    unfold NDrainPost at hdr
    rw [hxs, hX1] at hdr
    have HDR := Lib.hid hdr
    have HII := Lib.hid hi
    have HXB := Lib.hid hxb
    have HXL := Lib.hid hxl
    have HASK := Lib.hid hask
    obtain ⟨bT, hbT⟩ := hi.tab
    have HT := Lib.hid hbT
    clear h9 hask hq ho hnr hxs hX1 hdr hi hxb hxl hbT
    go_enter Try.func70, Try.ntmps70
    go_wp2_with fail
    refine HASK.out.mono ?_
    rintro e w1 ⟨rfl, rfl⟩
    go_wp2_with fail
    refine HDR.out.mono ?_
    rintro e w2 ⟨v1, bs1, L1, rfl, o1, ok1, h1⟩
    have O1 := Lib.hid o1
    have h2 := h1.perm (List.Perm.append_left bs1 ((q_near _ _ _ _).symm.trans (q_bud _ _ _ _)))
    have OK1 := Lib.hid ok1
    obtain ⟨A1, k1, rfl, -, -⟩ := o1.slice
    clear o1 ok1 h1
    go_wp2_with fail
    refine (qback_spec List.mem_cons_self h2 O1.out HII.out.bud HT.out HII.out.l1 HII.out.l2).mono ?_
    rintro e w3 ⟨bl2, rfl, HB2, h3⟩
    obtain ⟨zs2, hz2, h4⟩ := q_fin HII.out OK1.out HXL.out HXB.out HB2.out (backs_tab xs HT.out).1 (backs_tab xs HT.out).2 h3.dropL
    have HZ2 := Lib.hid hz2
    clear hz2 HB2 O1 OK1
    go_wp2_with fail
    go_ret
    exact ⟨0, _, X1, zs2, rfl, HI, HZ2, h4⟩
set_option maxHeartbeats 1000000 in
theorem qleft_spec (h : Own W (zs ++ m) w) (hq : QO qb L X zs) :
    Calls Try.prog 73 #[.pointer (some ⟨qb, 0, none⟩)] w fun e w' => e = .returned (.int .i64 (pgFree L + (nearAll X : Nat))) ∧ Own W (zs ++ m) w' := by
  have HQ := Lib.hid hq
  obtain ⟨rb, nb, nl, bl, Ln, hi⟩ := hq
  have ho := hi.own h
  obtain ⟨c0, c1⟩ := qcells ho List.mem_cons_self
  obtain ⟨bT, hT⟩ := hi.tab
  have hl := rleft_ok (ho.perm (q_bud _ _ _ _)) hi.bud hT hi.l1 hi.l2
  have hbd : 0 ≤ pgFree L ∧ pgFree L ≤ L.length := by
    rw [pgFree_tab hT hi.l1 hi.l2]
    have h3 := tab_len hT
    have : ∀ bs : List Pg, 0 ≤ freeSum bs ∧ freeSum bs ≤ (lay bs).length := fun bs => by
      induction bs with
      | nil => simp [freeSum]
      | cons p bs ih =>
        have h2 := lay_cons_len p bs
        unfold freeSum
        split <;> omega
    have := this bT
    omega
  have hl2 := hi.l2
  have hK : nearAll X ≤ 512 := by
    have h8 := q_c8 hi
    have key : ∀ n, n ≤ X.length → nearTo X n ≤ n * 64 := by
      intro n
      induction n with
      | zero => intro _; simp [nearTo]
      | succ n ih =>
        intro hn
        obtain ⟨xs, hx⟩ : ∃ xs, X[n]? = some xs := ⟨_, List.getElem?_eq_getElem (by omega)⟩
        obtain ⟨-, -, -, h64⟩ := hi.at_ h hx
        rw [nearTo_step hx]
        have := ih (by omega)
        omega
    have h2 := key X.length (Nat.le_refl _)
    unfold nearTo at h2
    rw [List.take_length] at h2
    unfold nearAll
    omega
  have HL := Lib.hid hl
  have HI := Lib.hid hi
  obtain ⟨F, hF⟩ : ∃ F, pgFree L = F := ⟨_, rfl⟩
  obtain ⟨K, hKK⟩ : ∃ K, nearAll X = K := ⟨_, rfl⟩
  have HK := Lib.hid hKK
  rw [hF] at HL hbd ⊢
  rw [hKK] at hK ⊢
  clear hl hF hKK hi ho hT
  go_enter Try.func73, Try.ntmps73
  go_wp2_with fail
  refine HL.out.mono ?_
  rintro e w1 ⟨rfl, h1⟩
  have h2 : Own W (zs ++ m) w1 := by rw [HI.out.eq]; exact h1.perm (q_bud _ _ _ _).symm
  clear h1
  go_wp2_with fail
  refine (qnear_spec h2 HQ.out).mono ?_
  rintro e w2 ⟨rfl, h3⟩
  rw [HK.out]
  have hw : IntKind.i64.wrap (F + (K : Int)) = F + K := by rw [IntWalk.i64_in] <;> omega
  go_wp2_with fail
  go_ret
  exact ⟨rfl, h3⟩
set_option maxHeartbeats 1000000 in
theorem qwhole_spec (h : Own W (zs ++ m) w) (hq : QO qb L X zs) :
    Calls Try.prog 74 #[.pointer (some ⟨qb, 0, none⟩)] w fun e w' => e = .returned (.bool (decide (L = freshL L.length))) ∧ Own W (zs ++ m) w' := by
  obtain ⟨rb, nb, nl, bl, Ln, hi⟩ := hq
  have ho := hi.own h
  obtain ⟨c0, c1⟩ := qcells ho List.mem_cons_self
  have hl := rwhole_is (ho.perm (q_bud _ _ _ _)) hi.bud hi.l1 hi.l2
  have HL := Lib.hid hl
  have HI := Lib.hid hi
  obtain ⟨b, hb⟩ : ∃ b, decide (L = freshL L.length) = b := ⟨_, rfl⟩
  rw [hb] at HL ⊢
  clear hl hi ho hb
  go_enter Try.func74, Try.ntmps74
  go_wp2_with fail
  refine HL.out.mono ?_
  rintro e w1 ⟨rfl, h1⟩
  have h2 : Own W (zs ++ m) w1 := by rw [HI.out.eq]; exact h1.perm (q_bud _ _ _ _).symm
  clear h1
  go_wp2_with fail
  go_ret
  exact ⟨rfl, h2⟩
/-- Head of the reference's tables -/
theorem qhead_ok {v : Value} {ex : Bool} {bs : List (Nat × Obj)} (h : Own W (bs ++ m) w) (ho : PgO ex v L bs) {b0 : List Pg} (hT : Tab L b0) (h1 : 1 ≤ L.length) (h2 : L.length ≤ 1024) {p a : Nat} {x : Pg} (hp : p < L.length) (hx : BlkOf L p a x) :
    Calls Try.prog 97 #[v, .int .i64 p] w fun e w' => e = .returned (.tuple #[.int .i64 a, .int .i64 0]) ∧ Own W (bs ++ m) w' := by
  obtain ⟨g1, g2, g3, g4⟩ := hx
  obtain ⟨b1, b2, rfl, rfl⟩ := tab_block hT g1 g2
  have hck := rcheck_ok h (PgO.read ho h) hT h1 h2
  have HCK := Lib.hid hck
  have HT := Lib.hid hT
  obtain ⟨A, c, rfl, q1, q2⟩ := ho.slice
  have HO := Lib.hid ho
  obtain ⟨N, hN⟩ : ∃ N, L.length = N := ⟨_, rfl⟩
  have HN := Lib.hid hN
  obtain ⟨a, ha⟩ : ∃ a, (lay b1).length = a := ⟨_, rfl⟩
  have HA := Lib.hid ha
  have G4 := Lib.hid g4
  rw [hN] at HCK hp h1 h2 q1
  rw [ha] at g3
  rw [hN, ha]
  have hp0 : (0 : Int) ≤ p := by omega
  have hpN : (p : Int) < N := by omega
  clear hck hT hN ha g4 g1 g2 h ho
  go_enter Try.func97, Try.ntmps97
  go_wp2_with fail
  refine HCK.out.mono ?_
  rintro e w1 ⟨rfl, h3⟩
  have hrd := PgO.read HO.out h3
  rw [HN.out] at hrd
  go_wp2_with fail
  refine (rbegin_ok hrd HT.out (by rw [HA.out]; exact g3) (by rw [HA.out, ← HA.out]; exact G4.out) (by rw [HN.out]; omega)).mono ?_
  rintro e w' ⟨rfl, rfl⟩
  rw [HA.out]
  go_wp2_with fail
  go_ret2
  exact ⟨rfl, h3⟩
/-- is a page the head of a block that is out, and not near? -/
def qOut (L : List Pg) (X : List (List Int)) (page : Int) : Bool := decide (0 ≤ page ∧ (L[page.toNat]?).map (·.1) = some 2) && !xHas X page
set_option maxRecDepth 100000 in
set_option maxHeartbeats 2000000 in
theorem qout_spec (h : Own W (zs ++ m) w) (hq : QO qb L X zs) (page : Int) :
    Calls Try.prog 95 #[.pointer (some ⟨qb, 0, none⟩), .int .i64 page] w fun e w' => e = .returned (.bool (qOut L X page)) ∧ Own W (zs ++ m) w' := by
  obtain ⟨rb, nb, nl, bl, Ln, hi⟩ := hq
  have ho := hi.own h
  obtain ⟨c0, c1⟩ := qcells ho List.mem_cons_self
  obtain ⟨v, bs, hpg, hbl⟩ := hi.bud
  have hob := ho.perm (q_bud _ _ _ _)
  rw [hbl] at hob
  have cv := rd_cell hob
  obtain ⟨g, cap, cur, rfl, -, hcap, -⟩ := hpg.form (by have := hi.l1; omega)
  have hin : Own W (bs ++ ((rb, .cells #[.slice (some ⟨g, 0, none⟩) L.length cap] 57) :: (qBlk qb rb nb :: (nrBlocks 134 nb nl 6 Ln ++ m)))) w := hob.perm List.perm_middle.symm
  have hl1 := hi.l1
  have hl2 := hi.l2
  obtain ⟨N, hN⟩ : ∃ N, L.length = N := ⟨_, rfl⟩
  have HN := Lib.hid hN
  by_cases hr : 0 ≤ page ∧ page < L.length
  · obtain ⟨p, rfl⟩ : ∃ p : Nat, page = p := ⟨page.toNat, by omega⟩
    obtain ⟨⟨x0, x1, x2⟩, hx⟩ : ∃ x, L[p]? = some x := ⟨_, List.getElem?_eq_getElem (by omega)⟩
    obtain ⟨d0, -, -, -, -, -⟩ := pg_cells hpg hin rfl rfl hx
    simp only at d0
    have hhas := nref.Has_spec (ho.perm (q_near _ _ _ _)) hi.nr.1 (p : Int)
    rw [hi.nr.has] at hhas
    have hqo : qOut L X (p : Int) = (decide (x0 = 2) && !xHas X p) := by
      unfold qOut
      rw [Int.toNat_natCast, hx]
      simp
    rw [hqo]
    rw [hN] at cv hr
    have hp0 : (0 : Int) ≤ p := by omega
    have hpN : (p : Int) < N := by omega
    have HHAS := Lib.hid hhas
    obtain ⟨b, hb⟩ : ∃ b, xHas X (p : Int) = b := ⟨_, rfl⟩
    rw [hb] at HHAS ⊢
    by_cases hx2 : x0 = 2
    · subst hx2
      clear hqo hhas hb hx hin hob hpg hi ho hbl hN
      go_enter Try.func95, Try.ntmps95
      go_wp2_with fail
      refine HHAS.out.mono ?_
      rintro e w1 ⟨rfl, rfl⟩
      go_wp2_with fail
      go_ret
      cases b <;> exact ⟨rfl, h⟩
    · have hkb : (x0 == 2) = false := beq_eq_false_iff_ne.2 hx2
      rw [decide_eq_false hx2]
      clear hqo hhas hb hx hin hob hpg hi ho hbl hN
      go_enter Try.func95, Try.ntmps95
      go_wp2_with fail
      go_ret
      exact ⟨rfl, h⟩
  · have hqo : qOut L X page = false := by
      unfold qOut
      rw [Bool.and_eq_false_iff]
      left
      apply decide_eq_false
      rintro ⟨h1, h2⟩
      obtain ⟨y, hy, -⟩ := Option.map_eq_some_iff.1 h2
      have := (List.getElem?_eq_some_iff.1 hy).1
      omega
    rw [hqo]
    rw [hN] at cv hr
    have hcase : page < 0 ∨ (0 ≤ page ∧ (N : Int) ≤ page) := by omega
    clear hqo hin hob hpg hi ho hbl hN hr
    rcases hcase with hp | ⟨hp0, hp⟩
    · go_enter Try.func95, Try.ntmps95
      go_wp2_with fail
      go_ret
      exact ⟨rfl, h⟩
    · go_enter Try.func95, Try.ntmps95
      go_wp2_with fail
      go_ret
      exact ⟨by first | rfl | (simp; done) | (simp; omega), h⟩
end
end Go.Proofs.Ytljcndcmdphmgaa
