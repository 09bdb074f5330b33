import Derived.Test.YtljcndcmdphmgaaZmRzD
/-
  The reference's zones: Free. No condition.
-/
namespace Go.Proofs.Ytljcndcmdphmgaa
open Go.RowKit
attribute [local go_sem ↓] Go.wp_at_zero Go.wp_at_succ
/-- what the reference's Free answers, and makes of it -/
def QFreeIs (L : List Pg) (X : List (List Int)) (cpu page e : Int) (L' : List Pg) (X' : List (List Int)) : Prop :=
  (askE X.length cpu = 9 ∧ e = 9 ∧ L' = L ∧ X' = X) ∨
  (askE X.length cpu = 0 ∧ qOut L X page = false ∧ e = 60 ∧ L' = L ∧ X' = X) ∨
  (askE X.length cpu = 0 ∧ qOut L X page = true ∧ ∃ o c, L[page.toNat]? = some (2, o, c) ∧ 0 < o ∧ BFreeIs L page e L' ∧ X' = X) ∨
  (askE X.length cpu = 0 ∧ qOut L X page = true ∧ ∃ o c, L[page.toNat]? = some (2, o, c) ∧ o ≤ 0 ∧ e = 0 ∧ L' = (nPut X 6 cpu page).1.1.foldl freeT (setC L page 0) ∧ X' = (nPut X 6 cpu page).2)
theorem qOut_yes {L : List Pg} {X : List (List Int)} {page : Int} (h : qOut L X page = true) : 0 ≤ page ∧ xHas X page = false ∧ ∃ o c, L[page.toNat]? = some (2, o, c) := by
  unfold qOut at h
  rw [Bool.and_eq_true] at h
  obtain ⟨h1, h2⟩ := h
  obtain ⟨h3, h4⟩ := of_decide_eq_true h1
  obtain ⟨⟨k, o, c⟩, h5, h6⟩ := Option.map_eq_some_iff.1 h4
  simp only at h6
  subst h6
  exact ⟨h3, by simpa using h2, o, c, h5⟩
section
variable {W w : World} {m zs : List (Nat × Obj)} {qb : Nat} {L : List Pg} {X : List (List Int)}
def QFreePost (W : World) (m : List (Nat × Obj)) (qb : Nat) (L : List Pg) (X : List (List Int)) (cpu page : Int) (x : Ending) (w' : World) : Prop :=
  ∃ e L' X' zs', x = .returned (.int .i64 e) ∧ Hid (QFreeIs L X cpu page e L' X') ∧ Hid (QO qb L' X' zs') ∧ Own W (zs' ++ m) w'
set_option maxRecDepth 100000 in
set_option maxHeartbeats 4000000 in
theorem qfree_spec (h : Own W (zs ++ m) w) (hq : QO qb L X zs) (cpu page : Int) :
    Calls Try.prog 72 #[.pointer (some ⟨qb, 0, none⟩), .int .i64 cpu, .int .i64 page] w (QFreePost W m qb L X cpu page) := by
  have HQ := Lib.hid hq
  have hask := qhas_spec h hq cpu
  rcases askE_cases X.length cpu with h9 | ⟨h9, hc0, hc1⟩
  · have HI : Hid (QFreeIs L X cpu page 9 L X) := .inl ⟨h9, rfl, rfl, rfl⟩
    rw [h9] at hask
    have HASK := Lib.hid hask
    clear h9 hask hq
    go_enter Try.func72, Try.ntmps72
    go_wp2_with fail
    refine HASK.out.mono ?_
    rintro e w1 ⟨rfl, rfl⟩
    go_wp2_with fail
    go_ret
    exact ⟨9, L, X, zs, rfl, HI, HQ, h⟩
  · have H9 := Lib.hid h9
    rw [h9] at hask
    have HASK := Lib.hid hask
    have HC : Hid (0 ≤ cpu ∧ cpu < (X.length : Int)) := ⟨hc0, hc1⟩
    clear h9 hask hq hc0 hc1
    cases hqo : qOut L X page with
    | false =>
      have HI : Hid (QFreeIs L X cpu page 60 L X) := .inr (.inl ⟨H9.out, hqo, rfl, rfl, rfl⟩)
      have HQO := Lib.hid hqo
      clear hqo
      go_enter Try.func72, Try.ntmps72
      go_wp2_with fail
      refine HASK.out.mono ?_
      rintro e w1 ⟨rfl, rfl⟩
      go_wp2_with fail
      refine (qout_spec h HQ.out page).mono ?_
      rintro e w2 ⟨rfl, h2⟩
      rw [HQO.out]
      go_wp2_with fail
      go_ret
      exact ⟨60, L, X, zs, rfl, HI, HQ, h2⟩
    | true =>
      have HQO := Lib.hid hqo
      obtain ⟨hp0, hxh, o, c, hpc⟩ := qOut_yes hqo
      obtain ⟨p, rfl⟩ : ∃ p : Nat, page = p := ⟨page.toNat, by omega⟩
      rw [Int.toNat_natCast] at hpc
      have HPC := Lib.hid hpc
      have hpL := (List.getElem?_eq_some_iff.1 hpc).1
      obtain ⟨rb, nb, nl, bl, Ln, hi⟩ := HQ.out
      obtain ⟨vB, bB, hpg, hbl⟩ := hi.bud
      obtain ⟨g, cap, cur, rfl, -, hcap, -⟩ := hpg.form (by have := hi.l1; omega)
      have hl2 := hi.l2
      obtain ⟨N, hN⟩ : ∃ N, L.length = N := ⟨_, rfl⟩
      have HN := Lib.hid hN
      have GETS : Hid (∀ ws M, Own W (zs ++ M) ws → ws.cell? ⟨qb, 0, none⟩ = some (.pointer (some ⟨rb, 0, none⟩)) ∧ ws.cell? ⟨qb, 1, none⟩ = some (.pointer (some ⟨nb, 0, none⟩)) ∧ ws.cell? ⟨rb, 0, none⟩ = some (.slice (some ⟨g, 0, none⟩) N cap) ∧ ws.cell? ⟨g, p * 3 + 1, none⟩ = some (.int .i64 o) ∧ ws.cell? ⟨g, p * 3 + 2, none⟩ = some (.int .i64 c) ∧ ws.frozen? ⟨g, p * 3 + 2, none⟩ = false) := fun ws M hw => by
        have h1 := hi.own hw
        have h2 := h1.perm (q_bud _ _ _ _)
        rw [hbl] at h2
        obtain ⟨-, d1, d2, -, -, f2⟩ := pg_cells hpg (h2.perm List.perm_middle.symm) rfl rfl hpc
        simp only at d1 d2
        rw [← hN]
        exact ⟨(qcells h1 List.mem_cons_self).1, (qcells h1 List.mem_cons_self).2, rd_cell h2, d1, d2, f2⟩
      have HII := Lib.hid hi
      have HPG := Lib.hid hpg
      have HBL := Lib.hid hbl
      rw [hN] at hpL hl2
      have hpN : (p : Int) < N := by omega
      obtain ⟨bT, hbT⟩ := hi.tab
      have TB := Lib.hid hbT
      by_cases ho : 0 < o
      · clear hqo hxh hpc hpg hbl hN hi hbT hcap
        go_enter Try.func72, Try.ntmps72
        go_wp2_with fail
        refine HASK.out.mono ?_
        rintro e w1 ⟨rfl, rfl⟩
        go_wp2_with fail
        refine (qout_spec h HQ.out (p : Int)).mono ?_
        rintro e w2 ⟨rfl, h2⟩
        rw [HQO.out]
        obtain ⟨c0, c1, cv, d1, d2, f2⟩ := GETS.out _ _ h2
        have h3 := (HII.out.own h2).perm (q_bud _ _ _ _)
        have H3 := Lib.hid h3
        clear h h3
        go_wp2_with fail
        refine (rfree_is H3.out HII.out.bud TB.out HII.out.l1 HII.out.l2 (p : Int)).mono ?_
        rintro e w4 ⟨er, L4, bl4, rfl, HF, HB4, h4⟩
        have HI : Hid (QFreeIs L X cpu (p : Int) er L4 X) := .inr (.inr (.inl ⟨H9.out, HQO.out, o, c, by rw [Int.toNat_natCast]; exact HPC.out, ho, HF.out, rfl⟩))
        obtain ⟨ht4, hl4⟩ := bfreeIs_tab TB.out HF.out
        obtain ⟨zs4, hz4, h5⟩ := q_fin HII.out HII.out.nr rfl HII.out.xb HB4.out ht4 hl4 (by simpa using h4)
        have HZ4 := Lib.hid hz4
        clear ht4 hl4 hz4 h4
        go_wp2_with fail
        go_ret
        exact ⟨er, L4, X, zs4, rfl, HI, HZ4, h5⟩
      · have hol : ¬ (0 : Int) < o := ho
        obtain ⟨xs, hxa, hput⟩ := nPut_ok (X := X) (cpu := cpu) (page := (p : Int)) (by omega) (by omega) hxh HC.out.1 HC.out.2
        obtain ⟨bl2, hbl2⟩ : ∃ l, (nPut X 6 cpu (p : Int)).1.1 = l := ⟨_, rfl⟩
        obtain ⟨X2, hX2⟩ : ∃ X2, (nPut X 6 cpu (p : Int)).2 = X2 := ⟨_, rfl⟩
        have he0 : (nPut X 6 cpu (p : Int)).1.2 = 0 := by rw [hput]
        have hX2l : X2.length = X.length := by rw [← hX2, hput]; simp
        have hxm : xs ∈ X := by
          unfold xAt at hxa
          split at hxa
          · exact List.mem_of_getElem? hxa
          · cases hxa
        have hX2b : ∀ ys ∈ X2, ∀ p ∈ ys, 0 ≤ p ∧ p < 1024 := by
          rw [← hX2, hput]
          intro ys hy q hq
          rcases List.mem_or_eq_of_mem_set hy with hy | rfl
          · exact hi.xb ys hy q hq
          · have := List.mem_of_mem_drop hq
            rcases List.mem_append.1 this with h | h
            · exact hi.xb xs hxm q h
            · have : q = p := by simpa using h
              omega
        have HI : Hid (QFreeIs L X cpu (p : Int) 0 (bl2.foldl freeT (setC L (p : Int) 0)) X2) := .inr (.inr (.inr ⟨H9.out, hqo, o, c, by rw [Int.toNat_natCast]; exact hpc, by omega, rfl, by rw [hbl2], hX2.symm⟩))
        have HPUT : Hid (∀ (M : List (Nat × Obj)) (w3 : World), Own W (nrBlocks 134 nb nl 6 Ln ++ M) w3 → Calls Try.prog 96 #[.pointer (some ⟨nb, 0, none⟩), .int .i64 cpu, .int .i64 p] w3 fun e w' => ∃ v bs L', e = .returned (.tuple #[v, .int .i64 0]) ∧ IntsOwn false v bl2 bs ∧ XsAre 6 L' X2 ∧ Own W (bs ++ (nrBlocks 134 nb nl 6 L' ++ M)) w') := fun M w3 h3 => by
          have := rput_spec h3 hi.nr cpu (p : Int)
          unfold NPutPost at this
          rw [hbl2, hX2, he0] at this
          exact this
        obtain ⟨bT2, hbT2⟩ := setC_tab hbT hpc (c := 0) (by omega) (by omega)
        have TB2 := Lib.hid hbT2
        have HX2L := Lib.hid hX2l
        have HX2B := Lib.hid hX2b
        clear hqo hxh hpc hpg hbl hN hi hbT hcap hxa hput hbl2 hX2 he0 hX2l hxm hX2b hbT2
        go_enter Try.func72, Try.ntmps72
        go_wp2_with fail
        refine HASK.out.mono ?_
        rintro e w1 ⟨rfl, rfl⟩
        go_wp2_with fail
        refine (qout_spec h HQ.out (p : Int)).mono ?_
        rintro e w2 ⟨rfl, h2⟩
        rw [HQO.out]
        obtain ⟨c0, c1, cv, d1, d2, f2⟩ := GETS.out _ _ h2
        have h3 := (HII.out.own h2).perm (q_bud _ _ _ _)
        rw [HBL.out] at h3
        obtain ⟨bB2, hpg2, h4⟩ := pg_storeC HPG.out (h3.perm List.perm_middle.symm) rfl rfl HPC.out 0
        have h5 := h4.perm List.perm_middle
        have h6 := h5.perm ((q_bud (qBlk qb rb nb) ((rb, .cells #[.slice (some ⟨g, 0, none⟩) L.length cap] 57) :: bB2) (nrBlocks 134 nb nl 6 Ln) m).symm.trans (q_near _ _ _ _))
        have HPG2 := Lib.hid hpg2
        have H6 := Lib.hid h6
        clear h h3 h4 h5 h6 hpg2
        go_wp2_with fail
        refine (HPUT.out _ _ H6.out).mono ?_
        rintro e w5 ⟨v5, bs5, L5, rfl, o5, ok5, h7⟩
        obtain ⟨A5, c5, rfl, -, -⟩ := o5.slice
        have O5 := Lib.hid o5
        have OK5 := Lib.hid ok5
        have h8 := h7.perm (List.Perm.append_left bs5 ((q_near (qBlk qb rb nb) ((rb, .cells #[.slice (some ⟨g, 0, none⟩) L.length cap] 57) :: bB2) (nrBlocks 134 nb nl 6 L5) m).symm.trans (q_bud _ _ _ _)))
        clear o5 ok5 h7 c0 c1 cv d1 d2 f2
        go_wp2_with fail
        refine (qback_spec (bl := (rb, .cells #[.slice (some ⟨g, 0, none⟩) L.length cap] 57) :: bB2) List.mem_cons_self h8 O5.out (L := setC L (p : Int) 0) ⟨_, _, HPG2.out, rfl⟩ TB2.out (by rw [setC_len]; exact HII.out.l1) (by rw [setC_len]; exact HII.out.l2)).mono ?_
        rintro e w6 ⟨bl6, rfl, HB6, h9⟩
        obtain ⟨zs6, hz6, h10⟩ := q_fin HII.out OK5.out HX2L.out HX2B.out HB6.out (backs_tab bl2 TB2.out).1 (by rw [(backs_tab bl2 TB2.out).2, setC_len]) h9.dropL
        have HZ6 := Lib.hid hz6
        clear hz6 h9 HB6 O5 OK5
        go_wp2_with fail
        go_ret
        exact ⟨0, _, X2, zs6, rfl, HI, HZ6, h10⟩
end
end Go.Proofs.Ytljcndcmdphmgaa
