/-
  wainscotlaw05.FrameSum answers true, of any table: the walk.
-/
import Derived.Test.YtljcndcmdphmgaaFrameWorks
namespace Go.Proofs.Ytljcndcmdphmgaa
open Go.RowKit
/-- an argument's pages -/
theorem pages_of {W : World} {A : Option Addr} {len : Nat} (h : FlatAt W [some .i64, some .i64, some .i64] A len) :
    ∃ L : List Pg, L.length = len ∧ (0 < len → ∃ g o, A = some ⟨g, o, none⟩ ∧ PgAt W g o L) := by
  by_cases h0 : 0 < len
  · obtain ⟨B, o, rfl, hB, hc⟩ := h h0
    have hp : ∀ i, i < len → ∃ p : Pg, W.cell? ⟨B, o + i * 3, none⟩ = some (.int .i64 p.1) ∧ W.cell? ⟨B, o + i * 3 + 1, none⟩ = some (.int .i64 p.2.1) ∧ W.cell? ⟨B, o + i * 3 + 2, none⟩ = some (.int .i64 p.2.2) := by
      intro i hi
      obtain ⟨u0, c0, n0, rfl, -⟩ := hc i hi 0 _ rfl
      obtain ⟨u1, c1, n1, rfl, -⟩ := hc i hi 1 _ rfl
      obtain ⟨u2, c2, n2, rfl, -⟩ := hc i hi 2 _ rfl
      exact ⟨(n0, n1, n2), c0, c1, c2⟩
    refine ⟨(List.range len).map fun i => if hi : i < len then Classical.choose (hp i hi) else pgIn, by simp, fun _ => ⟨B, o, rfl, hB, fun j p hj => ?_⟩⟩
    rw [List.getElem?_map] at hj
    obtain ⟨i, hi, rfl⟩ := Option.map_eq_some_iff.1 hj
    obtain ⟨hlt, rfl⟩ := List.getElem?_eq_some_iff.1 hi
    rw [List.length_range] at hlt
    simp only [List.getElem_range, hlt, dif_pos]
    exact Classical.choose_spec (hp j hlt)
  · exact ⟨[], by simp; omega, fun h => absurd h h0⟩
theorem PgAt.take {w : World} {g o : Nat} {L : List Pg} (h : PgAt w g o L) (n : Nat) : PgAt w g o (L.take n) := by
  refine ⟨h.1, fun j p hp => h.2 j p ?_⟩
  rw [List.getElem?_take] at hp
  split at hp
  · exact hp
  · cases hp
/-- the pages of heads, and of free heads -/
def sumAll (l : List Pg) : Int := (l.map fun p => if p.1 = 1 then 0 else (pgSize p : Int)).sum
def sumFree (l : List Pg) : Int := (l.map fun p => if p.1 = 0 then (pgSize p : Int) else 0).sum
theorem sumAll_append (a b : List Pg) : sumAll (a ++ b) = sumAll a + sumAll b := by simp [sumAll]
theorem sumFree_append (a b : List Pg) : sumFree (a ++ b) = sumFree a + sumFree b := by simp [sumFree]
theorem sumAll_in (n : Nat) : sumAll (List.replicate n pgIn) = 0 := by
  unfold sumAll
  rw [List.map_replicate]
  simp [pgIn]
theorem sumFree_in (n : Nat) : sumFree (List.replicate n pgIn) = 0 := by
  unfold sumFree
  rw [List.map_replicate]
  simp [pgIn]
theorem pgHead_kind {p : Pg} (h : pgHead p = true) : p.1 = 0 ∨ p.1 = 2 := by
  have := of_decide_eq_true h
  omega
theorem sums_lay : ∀ (bs : List Pg) (i : Nat), Row i bs → sumAll (lay bs) = (lay bs).length ∧ sumFree (lay bs) = pgFreeIn (places i bs)
  | [], i, _ => ⟨rfl, rfl⟩
  | p :: bs, i, h => by
    obtain ⟨h1, h2⟩ := sums_lay bs (i + pgSize p) h.2.2
    have hk := pgHead_kind h.1
    have hl := lay_cons_len p bs
    have e : lay (p :: bs) = [p] ++ List.replicate (pgSize p - 1) pgIn ++ lay bs := by simp [lay]
    constructor
    · rw [hl, e, sumAll_append, sumAll_append, sumAll_in, h1]
      have : sumAll [p] = pgSize p := by simp [sumAll]; omega
      rw [this]
      omega
    · rw [e, sumFree_append, sumFree_append, sumFree_in, h2]
      simp [sumFree, pgFreeIn, places]
theorem sums_tab {L : List Pg} (h : pgCheck L = 0) : sumAll L = L.length ∧ sumFree L = pgFree L := by
  obtain ⟨bs, hT⟩ := pgCheck_tab h
  have := sums_lay bs 0 hT.2
  rw [← hT.1] at this
  refine ⟨this.1, ?_⟩
  rw [this.2]
  unfold pgFree
  rw [if_pos h, tab_from hT]
theorem row_mem : ∀ {bs : List Pg} {i : Nat}, Row i bs → ∀ p ∈ bs, pgHead p = true
  | [], _, _, p, h => by simp at h
  | q :: bs, i, hr, p, h => by
    rcases List.mem_cons.1 h with rfl | h
    · exact hr.1
    · exact row_mem hr.2.2 p h
theorem lay_mem : ∀ (bs : List Pg), ∀ p ∈ lay bs, p ∈ bs ∨ p = pgIn
  | [], p, h => by simp [lay] at h
  | q :: bs, p, h => by
    have e : lay (q :: bs) = [q] ++ List.replicate (pgSize q - 1) pgIn ++ lay bs := by simp [lay]
    rw [e, List.mem_append, List.mem_append] at h
    rcases h with (h | h) | h
    · exact .inl (by simp at h; simp [h])
    · exact .inr (List.eq_of_mem_replicate h)
    · rcases lay_mem bs p h with h | h
      · exact .inl (List.mem_cons_of_mem _ h)
      · exact .inr h
theorem tab_get {L : List Pg} (h : pgCheck L = 0) {i : Nat} {p : Pg} (hp : L[i]? = some p) (hk : p.1 ≠ 1) : pgHead p = true := by
  obtain ⟨bs, hT⟩ := pgCheck_tab h
  have hm : p ∈ lay bs := by rw [← hT.1]; exact List.mem_of_getElem? hp
  rcases lay_mem bs p hm with h | rfl
  · exact row_mem hT.2 p h
  · exact absurd rfl hk
theorem sumAll_take {L : List Pg} {i : Nat} {p : Pg} (hp : L[i]? = some p) : sumAll (L.take (i + 1)) = sumAll (L.take i) + if p.1 = 1 then 0 else (pgSize p : Int) := by
  rw [List.take_add_one, hp, sumAll_append]
  simp [sumAll]
theorem sumFree_take {L : List Pg} {i : Nat} {p : Pg} (hp : L[i]? = some p) : sumFree (L.take (i + 1)) = sumFree (L.take i) + if p.1 = 0 then (pgSize p : Int) else 0 := by
  rw [List.take_add_one, hp, sumFree_append]
  simp [sumFree]
namespace frameSum
set_option maxRecDepth 100000 in
set_option maxHeartbeats 4000000 in
theorem walk {W w : World} {m : List (Nat × Obj)} (h : Own W m w) {A : Option Addr} {cap N : Nat} {L : List Pg} (hs : PgS w (.slice A N cap) L) (hN : Hid (L.length = N)) (hNle : N ≤ 200) (len : Nat) (hlen : (N : Int) = min (len : Int) 200) (hc1 : len ≤ cap) (hc2 : cap ≤ maxLen) :
    Calls Try.prog 4 #[.slice A len cap] w fun e w' => e = .returned (.bool true) ∧ Own W m w' := by
  cases hck : decide (pgCheck L = 0) with
  | false =>
    have hc : pgCheck L = 50 := (pgCheck_cases L).resolve_left (of_decide_eq_false hck)
    have hf : pgFree L = 0 := by unfold pgFree; rw [if_neg (by rw [hc]; decide)]
    have HC := Lib.hid hc
    have HF := Lib.hid hf
    clear hc hf hck
    go_enter Try.func4, Try.ntmps4
    go_wp2_with fail
    case' inr => obtain rfl : len = N := by omega
    case' inl => obtain rfl : N = 200 := by omega
    all_goals
      clear hlen
      refine (check_spec (Own.self w) hs).mono ?_
      rintro e w1 ⟨rfl, h1⟩
      rw [HC.out]
      go_wp2_with fail
      refine (free_spec h1 (hs.own h1)).mono ?_
      rintro e w2 ⟨rfl, h2⟩
      rw [HF.out]
      go_wp2_with fail
      refine (law05.works_spec h2).mono ?_
      rintro e w3 ⟨rfl, h3⟩
      go_wp2_with fail
      go_ret
      exact ⟨rfl, Own.of_self ‹Own W m w› h3⟩
  | true =>
    have hck := of_decide_eq_true hck
    obtain ⟨s1, s2⟩ := sums_tab hck
    obtain ⟨z1, z2, z3⟩ := pgCheck_zero hck
    have HC := Lib.hid hck
    have S1 := Lib.hid s1
    have S2 := Lib.hid s2
    rw [hN.out] at z1
    obtain ⟨A', c', hv, -, -, hA'⟩ := id hs
    obtain ⟨g, oo, hg, hA⟩ := hA' (by rw [hN.out]; omega)
    obtain rfl : A = some ⟨g, oo, none⟩ := by rw [← hg]; exact (Value.slice.inj hv).1
    clear hv hA' hg
    go_enter Try.func4, Try.ntmps4
    go_wp2_with fail
    case' inr => obtain rfl : len = N := by omega
    case' inl => obtain rfl : N = 200 := by omega
    all_goals
      clear hlen
      refine (check_spec (Own.self w) hs).mono ?_
      rintro e w1 ⟨rfl, h1⟩
      rw [HC.out]
      have hs1 := hs.own h1
      have H1 := h1
      clear h1 s1 s2 z3 hck
      go_wp2_with fail
      go_loopw [3, 4, 5] (fun a f j wr => ∃ i : Nat, ∃ x y : Int, i ≤ L.length ∧ j = .int .i64 i ∧ a = .int .i64 x ∧ f = .int .i64 y ∧ Hid (sumAll (L.take i) = x) ∧ Hid (sumFree (L.take i) = y) ∧ (0 ≤ x ∧ x ≤ i * 1024) ∧ (0 ≤ y ∧ y ≤ i * 1024) ∧ Own w [] wr) (fun _ _ j _ => L.length - (intOf j).toNat)
      case atStart => exact ⟨0, 0, 0, by omega, rfl, rfl, rfl, rfl, rfl, by omega, by omega, H1⟩
      case round =>
        obtain ⟨i, x, y, hi, rfl, rfl, rfl, HX, HY, hx, hy, hr⟩ := hrel
        have hLN := hN.out
        by_cases hlt : i < L.length
        · obtain ⟨q, b, hq, hb, hq1, hq2, hb2, hq3⟩ := pgHd_get (page := (i : Int)) HC.out (by omega) (by omega)
          obtain ⟨p, hp⟩ : ∃ p, L[i]? = some p := ⟨_, List.getElem?_eq_getElem hlt⟩
          have hE : pgHeadE L i = ((q : Int), 0) := by unfold pgHeadE; rw [if_neg (by rw [HC.out]; simp), if_neg (by omega), hq]
          have hX := sumAll_take hp
          have hY := sumFree_take hp
          rw [HX.out] at hX
          rw [HY.out] at hY
          obtain ⟨b0, b1, b2⟩ := b
          obtain ⟨p0, p1, p2⟩ := p
          have hbo := pgHead_order hb2
          have hbk := pgHead_kind hb2
          simp only at hbo hbk
          obtain ⟨s, rfl⟩ : ∃ s : Nat, b1 = (s : Int) := ⟨b1.toNat, by omega⟩
          have hpw : (2 : Nat) ^ s ≤ 2 ^ 10 := Nat.pow_le_pow_right (by omega) (by omega)
          have hmin : min s 64 = s := by omega
          obtain ⟨M, hM⟩ : ∃ M : Nat, 2 ^ s = M := ⟨_, rfl⟩
          have hMi : (2 : Int) ^ s = (M : Int) := by rw [← hM]; simp
          have hsn : (0 : Int) ≤ s := by omega
          have hszx : pgSize (b0, ((s : Nat) : Int), b2) = M := by simp [pgSize, hM]
          rw [hszx] at hq2 hq3
          have hiN : (i : Int) < L.length := by omega
          have hqN : (q : Int) < L.length := by have : 1 ≤ M := by (rw [← hM]; exact Nat.one_le_two_pow)
                                                omega
          rw [hN.out] at hiN hqN hi
          obtain ⟨c0, c1, c2⟩ := (hA.own hr).2 q _ hb
          obtain ⟨d0, d1, d2⟩ := (hA.own hr).2 i _ hp
          simp only at c0 c1 c2 d0 d1 d2
          have HE := Lib.hid hE
          have HB := Lib.hid hb
          have HP := Lib.hid hp
          have nb : (b0 == 1) = false := by rw [beq_eq_false_iff_ne]; omega
          have hlt2 := hN.out ▸ hlt
          have hM2 : M ≤ 1024 := by omega
          have hM1 : 1 ≤ M := by rw [← hM]; exact Nat.one_le_two_pow
          by_cases hp1 : p0 = 1
          · subst hp1
            simp only [if_true] at hX
            rw [if_neg (by omega)] at hY
            have HX' := Lib.hid hX
            have HY' := Lib.hid hY
            clear hX hY hE hszx hM hpw hp hb hLN hlt hbk
            go_wp2_with fail
            refine (Head_spec hr (hs.own hr) i).mono ?_
            rintro e w2 ⟨rfl, h2⟩
            rw [HE.out]
            obtain ⟨c0, c1, c2⟩ := ((hA.own h2).2 q _ HB.out)
            obtain ⟨d0, d1, d2⟩ := ((hA.own h2).2 i _ HP.out)
            simp only at c0 c1 c2 d0 d1 d2
            go_wp2_with fail
            exact ⟨⟨i + 1, x, y, by omega, by go_num, rfl, rfl, by rw [HX'.out]; exact Int.add_zero x, by rw [HY'.out]; exact Int.add_zero y, by omega, by omega, h2⟩, by simp [intOf]; omega⟩
          · have hpo := tab_get HC.out hp hp1
            have hpk := pgHead_kind hpo
            have hpr := pgHead_order hpo
            simp only at hpk hpr hp1
            obtain ⟨s2, rfl⟩ : ∃ s : Nat, p1 = (s : Int) := ⟨p1.toNat, by omega⟩
            have hpw2 : (2 : Nat) ^ s2 ≤ 2 ^ 10 := Nat.pow_le_pow_right (by omega) (by omega)
            have hmin2 : min s2 64 = s2 := by omega
            obtain ⟨M2, hM2'⟩ : ∃ M : Nat, 2 ^ s2 = M := ⟨_, rfl⟩
            have hMi2 : (2 : Int) ^ s2 = (M2 : Int) := by rw [← hM2']; simp
            have hsn2 : (0 : Int) ≤ s2 := by omega
            have hM3 : M2 ≤ 1024 := by omega
            have hszp : pgSize (p0, ((s2 : Nat) : Int), p2) = M2 := by simp [pgSize, hM2']
            have np1 : (p0 == 1) = false := by rw [beq_eq_false_iff_ne]; omega
            simp only [hszp] at hX hY
            rw [if_neg hp1] at hX
            by_cases hp0 : p0 = 0
            · subst hp0
              rw [if_pos rfl] at hY
              have HX' := Lib.hid hX
              have HY' := Lib.hid hY
              clear hX hY hE hszx hM hpw hp hb hLN hlt hbk hszp hM2' hpw2 hp1 hpk np1
              go_wp2_with fail
              refine (Head_spec hr (hs.own hr) i).mono ?_
              rintro e w2 ⟨rfl, h2⟩
              rw [HE.out]
              obtain ⟨c0, c1, c2⟩ := ((hA.own h2).2 q _ HB.out)
              obtain ⟨d0, d1, d2⟩ := ((hA.own h2).2 i _ HP.out)
              simp only at c0 c1 c2 d0 d1 d2
              go_wp2_with fail
              exact ⟨⟨i + 1, x + M2, y + M2, by omega, by go_num, rfl, rfl, HX', HY', by omega, by omega, h2⟩, by simp [intOf]; omega⟩
            · have np0 : (p0 == 0) = false := by rw [beq_eq_false_iff_ne]; omega
              rw [if_neg hp0] at hY
              have HX' := Lib.hid hX
              have HY' := Lib.hid hY
              clear hX hY hE hszx hM hpw hp hb hLN hlt hbk hszp hM2' hpw2 hp1 hp0 hpk
              go_wp2_with fail
              refine (Head_spec hr (hs.own hr) i).mono ?_
              rintro e w2 ⟨rfl, h2⟩
              rw [HE.out]
              obtain ⟨c0, c1, c2⟩ := ((hA.own h2).2 q _ HB.out)
              obtain ⟨d0, d1, d2⟩ := ((hA.own h2).2 i _ HP.out)
              simp only at c0 c1 c2 d0 d1 d2
              go_wp2_with fail
              exact ⟨⟨i + 1, x + M2, y, by omega, by go_num, rfl, rfl, HX', by rw [HY'.out]; exact Int.add_zero y, by omega, by omega, h2⟩, by simp [intOf]; omega⟩
        · have hiL : i = L.length := by omega
          rw [hN.out] at hiL
          have HX' := HX.out
          have HY' := HY.out
          rw [List.take_of_length_le (by omega)] at HX' HY'
          rw [S1.out, hN.out] at HX'
          rw [S2.out] at HY'
          subst hiL
          subst HX'
          have HF := Lib.hid HY'
          clear HY' hLN hlt
          go_wp2_with fail
          refine (free_spec hr (hs.own hr)).mono ?_
          rintro e w2 ⟨rfl, h2⟩
          rw [HF.out]
          go_wp2_with fail
          refine (law05.works_spec h2).mono ?_
          rintro e w3 ⟨rfl, h3⟩
          go_wp2_with fail
          go_ret
          exact ⟨rfl, Own.of_self ‹Own W m w› h3⟩
end frameSum
end Go.Proofs.Ytljcndcmdphmgaa
