/-
  Both buddies, call by call: what Alloc and Free make of a table (one answer each); outs. No condition.
-/
import Derived.Test.YtljcndcmdphmgaaBrfF
import Derived.Test.YtljcndcmdphmgaaBudInv
namespace Go.Proofs.Ytljcndcmdphmgaa
open Go.RowKit
attribute [local go_sem ↓] Go.wp_at_zero Go.wp_at_succ
theorem least_one {L : List Pg} {q a o a' o' : Nat} (h : LeastIs L q a o) (h' : LeastIs L q a' o') : a = a' ∧ o = o' := by
  have ho : o = o' := by
    rcases Nat.lt_trichotomy o o' with h1 | h1 | h1
    · exact absurd h.2.2.1 (h'.2.2.2.1 o h.1 h1 a)
    · exact h1
    · exact absurd h'.2.2.1 (h.2.2.2.1 o' h'.1 h1 a')
  subst ho
  refine ⟨?_, rfl⟩
  rcases Nat.lt_trichotomy a a' with h1 | h1 | h1
  · exact absurd h.2.2.1 (h'.2.2.2.2 a h1)
  · exact h1
  · exact absurd h'.2.2.1 (h.2.2.2.2 a' h1)
theorem least_none {L : List Pg} {q a o : Nat} (h : LeastIs L q a o) (h' : NoneIs L q) : False := h' o h.1 h.2.1 a h.2.2.1
def AllocOk (order c : Int) : Prop := 0 ≤ order ∧ order ≤ 10 ∧ 0 ≤ c ∧ c ≤ 8
/-- what Alloc answers, and makes of the table -/
def AllocIs (L : List Pg) (order c p e : Int) (L' : List Pg) : Prop :=
  (¬ AllocOk order c ∧ p = 0 ∧ e = 2 ∧ L' = L) ∨ (AllocOk order c ∧ NoneIs L order.toNat ∧ p = 0 ∧ e = 7 ∧ L' = L) ∨
  (AllocOk order c ∧ ∃ a k : Nat, LeastIs L order.toNat a (order.toNat + k) ∧ p = a ∧ e = 0 ∧ L' = allocL L a order.toNat k c)
theorem allocIs_one {L L1 L2 : List Pg} {order c p e q f : Int} (h : AllocIs L order c p e L1) (h' : AllocIs L order c q f L2) : p = q ∧ e = f ∧ L1 = L2 := by
  rcases h with ⟨h1, rfl, rfl, rfl⟩ | ⟨h1, h2, rfl, rfl, rfl⟩ | ⟨h1, a, k, h2, rfl, rfl, rfl⟩ <;> rcases h' with ⟨g1, rfl, rfl, rfl⟩ | ⟨g1, g2, rfl, rfl, rfl⟩ | ⟨g1, a', k', g2, rfl, rfl, rfl⟩ <;>
    first | exact ⟨rfl, rfl, rfl⟩ | exact absurd h1 g1 | exact absurd g1 h1 | exact (least_none g2 h2).elim | exact (least_none h2 g2).elim | skip
  obtain ⟨rfl, hk⟩ := least_one h2 g2
  obtain rfl : k = k' := by omega
  exact ⟨rfl, rfl, rfl⟩
theorem allocIs_tab {L L' bs : List Pg} {order c p e : Int} (hT : Tab L bs) (h : AllocIs L order c p e L') : (∃ bs', Tab L' bs') ∧ L'.length = L.length := by
  rcases h with ⟨h1, rfl, rfl, rfl⟩ | ⟨h1, h2, rfl, rfl, rfl⟩ | ⟨h1, a, k, h2, rfl, rfl, rfl⟩
  · exact ⟨⟨_, hT⟩, rfl⟩
  · exact ⟨⟨_, hT⟩, rfl⟩
  · obtain ⟨b1, b2, rfl, hb⟩ := tab_block hT h2.2.2.1 (fb_kind _)
    obtain ⟨hT', -, hle⟩ := alloc_tab hT h2.2.1 (c := c) ⟨h1.2.2.1, h1.2.2.2⟩
    rw [hb] at hT' hle
    refine ⟨⟨_, hT'⟩, ?_⟩
    have hp := Nat.pow_le_pow_right (show 0 < 2 from by omega) (show order.toNat ≤ order.toNat + k by omega)
    obtain ⟨q, hq⟩ : ∃ q, order.toNat = q := ⟨_, rfl⟩
    rw [hq] at hle hp ⊢
    have hsz : pgSize ((2 : Int), ((q : Nat) : Int), c) = 2 ^ q := by show 2 ^ ((q : Nat) : Int).toNat = _; rw [Int.toNat_natCast]
    have hs := (split_eq a q (2, ((q : Nat) : Int), c) hsz k L hle).2
    unfold allocL
    rw [pgPut_len (by rw [hs, hsz]; omega), hs]
/-- what Free answers, and makes of the table -/
def BFreeIs (L : List Pg) (page e : Int) (L' : List Pg) : Prop :=
  ((∀ p : Pg, 0 ≤ page → L[page.toNat]? = some p → p.1 ≠ 2) ∧ e = 60 ∧ L' = L) ∨ (∃ (p o : Nat) (c : Int), page = p ∧ L[p]? = some (2, (o : Int), c) ∧ e = 0 ∧ L' = freeL L p o)
theorem bfreeIs_one {L L1 L2 : List Pg} {page e f : Int} (h : BFreeIs L page e L1) (h' : BFreeIs L page f L2) : e = f ∧ L1 = L2 := by
  rcases h with ⟨h1, rfl, rfl⟩ | ⟨p, o, c, rfl, h1, rfl, rfl⟩ <;> rcases h' with ⟨g1, rfl, rfl⟩ | ⟨q, o', c', g0, g1, rfl, rfl⟩
  · exact ⟨rfl, rfl⟩
  · exact absurd rfl (h1 (2, (o' : Int), c') (by omega) (by rw [g0, Int.toNat_natCast]; exact g1))
  · exact absurd rfl (g1 (2, (o : Int), c) (by omega) (by rw [Int.toNat_natCast]; exact h1))
  · obtain rfl : p = q := by omega
    rw [h1] at g1
    simp only [Option.some.injEq, Prod.mk.injEq, true_and] at g1
    obtain rfl : o = o' := by have := g1.1; omega
    exact ⟨rfl, rfl⟩
theorem tab_free {L bs : List Pg} (hT : Tab L bs) {p o : Nat} {c : Int} (hp : L[p]? = some (2, (o : Int), c)) : (∃ bs', Tab (freeL L p o) bs') ∧ (freeL L p o).length = L.length := by
  obtain ⟨b1, b2, rfl, hb⟩ := tab_block hT hp (by simp)
  have hr := (row_append b1 _ 0).1 hT.2
  rw [Nat.zero_add, hb] at hr
  have hsz : pgSize ((2 : Int), (o : Int), c) = 2 ^ o := by simp [pgSize]
  have ho := pgHead_order hr.2.1
  simp only at ho
  have hal := hr.2.2.1
  rw [hsz] at hal
  obtain ⟨b1', c1', c2', hT1, e1, e2, e3, e4, e5, e6, e7⟩ := join_tab (page := p) (o0 := o) (10 - o) p o b1 [(2, (o : Int), c)] b2 (by omega) (by simpa using hT) hb (by rw [lay_one_len, hsz]) hal (by simp [freeSum]) (by simp [outPl])
  have hll := tab_len hT1
  rw [lay_append, lay_append, List.length_append, List.length_append, e1, e2] at hll
  have hT2 := put_tab (x := fb (bJoin L (10 - o) p o).2) hT1 (by rw [e2, fb_size]) (fb_head e4) (by rw [e1, fb_size]; exact e3)
  rw [e1] at hT2
  exact ⟨⟨_, hT2⟩, pgPut_len (by rw [fb_size]; omega)⟩
theorem bfreeIs_tab {L L' bs : List Pg} {page e : Int} (hT : Tab L bs) (h : BFreeIs L page e L') : (∃ bs', Tab L' bs') ∧ L'.length = L.length := by
  rcases h with ⟨h1, rfl, rfl⟩ | ⟨p, o, c, rfl, h1, rfl, rfl⟩
  · exact ⟨⟨_, hT⟩, rfl⟩
  · exact tab_free hT h1
theorem bfreeIs_case {L bs : List Pg} (hT : Tab L bs) (page : Int) : (∀ p : Pg, 0 ≤ page → L[page.toNat]? = some p → p.1 ≠ 2) ∨ (∃ (p o : Nat) (c : Int), page = p ∧ L[p]? = some (2, (o : Int), c)) := by
  by_cases h : ∀ p : Pg, 0 ≤ page → L[page.toNat]? = some p → p.1 ≠ 2
  · exact .inl h
  · right
    have : ∃ p : Pg, 0 ≤ page ∧ L[page.toNat]? = some p ∧ p.1 = 2 := by
      apply Classical.byContradiction
      intro hn
      exact h fun p h1 h2 h3 => hn ⟨p, h1, h2, h3⟩
    obtain ⟨⟨p0, p1, p2⟩, h1, h2, h3⟩ := this
    simp only at h3
    subst h3
    have := pgHead_order (tab_align hT h2 (by simp)).2.2
    simp only at this
    exact ⟨page.toNat, p1.toNat, p2, by omega, by rw [h2, Int.toNat_of_nonneg this.1]⟩
section
variable {W w : World} {m bl : List (Nat × Obj)} {pb rb : Nat} {L : List Pg}
theorem alloc_is (h : Own W (bl ++ m) w) (hb : BdO pb L bl) {bs0 : List Pg} (hT : Tab L bs0) (hL1 : 1 ≤ L.length) (hL : L.length ≤ 1024) (order c : Int) :
    Calls Try.prog 28 #[.pointer (some ⟨pb, 0, none⟩), .int .i64 order, .int .i64 c] w fun x w' => ∃ p e L' bl', x = .returned (.tuple #[.int .i64 p, .int .i64 e]) ∧ Hid (AllocIs L order c p e L') ∧ Hid (BdO pb L' bl') ∧ Own W (bl' ++ m) w' := by
  have hpost : ∀ x w', AllocPost W m bl pb L order c x w' → ∃ p e L' bl', x = .returned (.tuple #[.int .i64 p, .int .i64 e]) ∧ Hid (AllocIs L order c p e L') ∧ Hid (BdO pb L' bl') ∧ Own W (bl' ++ m) w' := by
    rintro x w' (⟨h1, hx, hO⟩ | ⟨h1, h2, hx, hO⟩ | ⟨h1, a, k, bl', h2, hx, h3, hO⟩)
    · exact ⟨0, 2, L, bl, hx, .inl ⟨by unfold AllocOk; omega, rfl, rfl, rfl⟩, hb, hO⟩
    · exact ⟨0, 7, L, bl, hx, .inr (.inl ⟨h1, h2, rfl, rfl, rfl⟩), hb, hO⟩
    · exact ⟨a, 0, _, bl', hx, .inr (.inr ⟨h1, a, k, h2, rfl, rfl, rfl⟩), h3, hO⟩
  by_cases hok : order < 0 ∨ 10 < order ∨ c < 0 ∨ 8 < c
  · exact (alloc_bad h hb hL1 order c hok).mono hpost
  · obtain ⟨o, rfl⟩ : ∃ o : Nat, order = o := ⟨order.toNat, by omega⟩
    exact (alloc_ok h hb hT hL1 hL o c (by omega) (by omega) (by omega)).mono hpost
theorem ralloc_is (h : Own W (bl ++ m) w) (hb : RdO rb L bl) {bs0 : List Pg} (hT : Tab L bs0) (hL1 : 1 ≤ L.length) (hL : L.length ≤ 1024) (order c : Int) :
    Calls Try.prog 31 #[.pointer (some ⟨rb, 0, none⟩), .int .i64 order, .int .i64 c] w fun x w' => ∃ p e L' bl', x = .returned (.tuple #[.int .i64 p, .int .i64 e]) ∧ Hid (AllocIs L order c p e L') ∧ Hid (RdO rb L' bl') ∧ Own W (bl' ++ m) w' := by
  have hpost : ∀ x w', RAllocPost W m bl rb L order c x w' → ∃ p e L' bl', x = .returned (.tuple #[.int .i64 p, .int .i64 e]) ∧ Hid (AllocIs L order c p e L') ∧ Hid (RdO rb L' bl') ∧ Own W (bl' ++ m) w' := by
    rintro x w' (⟨h1, hx, hO⟩ | ⟨h1, h2, hx, hO⟩ | ⟨h1, a, k, bl', h2, hx, h3, hO⟩)
    · exact ⟨0, 2, L, bl, hx, .inl ⟨by unfold AllocOk; omega, rfl, rfl, rfl⟩, hb, hO⟩
    · exact ⟨0, 7, L, bl, hx, .inr (.inl ⟨h1, h2, rfl, rfl, rfl⟩), hb, hO⟩
    · exact ⟨a, 0, _, bl', hx, .inr (.inr ⟨h1, a, k, h2, rfl, rfl, rfl⟩), h3, hO⟩
  by_cases hok : order < 0 ∨ 10 < order ∨ c < 0 ∨ 8 < c
  · exact (ralloc_bad h order c hok).mono hpost
  · obtain ⟨o, rfl⟩ : ∃ o : Nat, order = o := ⟨order.toNat, by omega⟩
    exact (ralloc_ok h hb hT hL1 hL o c (by omega) (by omega) (by omega)).mono hpost
theorem free_is (h : Own W (bl ++ m) w) (hb : BdO pb L bl) {bs0 : List Pg} (hT : Tab L bs0) (hL1 : 1 ≤ L.length) (hL : L.length ≤ 1024) (page : Int) :
    Calls Try.prog 25 #[.pointer (some ⟨pb, 0, none⟩), .int .i64 page] w fun x w' => ∃ e L' bl', x = .returned (.int .i64 e) ∧ Hid (BFreeIs L page e L') ∧ Hid (BdO pb L' bl') ∧ Own W (bl' ++ m) w' := by
  rcases bfreeIs_case hT page with h1 | ⟨p, o, c, rfl, h1⟩
  · exact (Free_bad h hb hL1 page h1).mono fun x w' ⟨hx, hO⟩ => ⟨60, L, bl, hx, .inl ⟨h1, rfl, rfl⟩, hb, hO⟩
  · exact (Free_ok h hb hT hL1 hL p o c h1).mono fun x w' ⟨bl', hx, hb', hO⟩ => ⟨0, _, bl', hx, .inr ⟨p, o, c, rfl, h1, rfl, rfl⟩, hb', hO⟩
theorem rfree_is (h : Own W (bl ++ m) w) (hb : RdO rb L bl) {bs0 : List Pg} (hT : Tab L bs0) (hL1 : 1 ≤ L.length) (hL : L.length ≤ 1024) (page : Int) :
    Calls Try.prog 33 #[.pointer (some ⟨rb, 0, none⟩), .int .i64 page] w fun x w' => ∃ e L' bl', x = .returned (.int .i64 e) ∧ Hid (BFreeIs L page e L') ∧ Hid (RdO rb L' bl') ∧ Own W (bl' ++ m) w' := by
  rcases bfreeIs_case hT page with h1 | ⟨p, o, c, rfl, h1⟩
  · exact (rFree_bad h hb hL1 page h1).mono fun x w' ⟨hx, hO⟩ => ⟨60, L, bl, hx, .inl ⟨h1, rfl, rfl⟩, hb, hO⟩
  · exact (rFree_ok h hb hT hL1 hL p o c h1).mono fun x w' ⟨bl', hx, hb', hO⟩ => ⟨0, _, bl', hx, .inr ⟨p, o, c, rfl, h1, rfl, rfl⟩, hb', hO⟩
/-- Frees, of any order -/
theorem frees_any (h : Own W (bl ++ m) w) (hb : BdO pb L bl) {bs0 : List Pg} (hT : Tab L bs0) (hL1 : 1 ≤ L.length) (hL : L.length ≤ 1024) (o : Int) :
    Calls Try.prog 26 #[.pointer (some ⟨pb, 0, none⟩), .int .i64 o] w fun e w' => ∃ v bs, e = .returned v ∧ IntsOwn true v (rfreesTo L o L.length) bs ∧ Own W (bs ++ (bl ++ m)) w' := by
  by_cases ho : o < 0 ∨ 10 < o
  · rw [rfreesTo_bad hT o ho]
    exact (frees_bad h hb hL1 o ho).mono fun e w' ⟨he, hO⟩ => ⟨_, [], he, SlO.nil _ _ _, hO⟩
  · obtain ⟨q, rfl⟩ : ∃ q : Nat, o = q := ⟨o.toNat, by omega⟩
    rw [rfreesTo_ok]
    exact frees_ok h hb hT hL1 hL q (by omega)
/-- the places of what is out -/
def outsTo (L : List Pg) (n : Nat) : List Int := ((List.range n).filter fun a => decide ((L[a]?).map (·.1) = some 2)).map fun a => ((a : Nat) : Int)
theorem outsTo_len (L : List Pg) (n : Nat) : (outsTo L n).length ≤ n := by
  unfold outsTo
  rw [List.length_map]
  exact Nat.le_trans (List.length_filter_le _ _) (by simp)
theorem outsTo_succ {L : List Pg} {n : Nat} {p : Pg} (h : L[n]? = some p) : outsTo L (n + 1) = outsTo L n ++ if p.1 = 2 then [(n : Int)] else [] := by
  unfold outsTo
  rw [List.range_succ, List.filter_append, List.map_append]
  by_cases hp : p.1 = 2 <;> simp [h, hp]
set_option maxHeartbeats 2000000 in
theorem outs_spec {v : Value} (h : Own W m w) (hs : PgS w v L) (hL1 : 1 ≤ L.length) (hL : L.length ≤ 1024) :
    Calls Try.prog 32 #[v] w fun e w' => ∃ v' bs, e = .returned v' ∧ IntsOwn true v' (outsTo L L.length) bs ∧ Own W (bs ++ m) w' := by
  have HS := Lib.hid hs
  obtain ⟨A, c, rfl, g1, g2, g3⟩ := hs
  unfold maxLen at g2
  obtain ⟨g, o, rfl, hA⟩ := g3 (by omega)
  obtain ⟨N, hN⟩ : ∃ N, L.length = N := ⟨_, rfl⟩
  have HN := Lib.hid hN
  have HA := Lib.hid hA
  rw [hN] at hL hL1 g1 ⊢
  clear g3 hN hA
  go_enter Try.func32, Try.ntmps32
  go_wp2_with fail
  go_loopw [3, 4] (fun out iv wr => ∃ (i : Nat) (bs : List (Nat × Obj)), iv = .int .i64 i ∧ i ≤ N ∧ Hid (IntsOwn true out (outsTo L i) bs) ∧ Own w bs wr) (fun _ iv _ => N - (intOf iv).toNat)
  case atStart => exact ⟨0, [], rfl, by omega, SlO.nil _ _ _, Own.self w⟩
  case round =>
    obtain ⟨i, bs, rfl, hi, HO, hr⟩ := hrel
    obtain ⟨A1, c1, hv, -, -⟩ := HO.out.slice
    subst hv
    have hlen := outsTo_len L i
    obtain ⟨z, hz⟩ : ∃ z, (outsTo L i).length = z := ⟨_, rfl⟩
    have o9 : IntsOwn true (.slice A1 z c1) (outsTo L i) bs := by have := HO.out; rwa [hz] at this
    have HO9 := Lib.hid o9
    have HZ := Lib.hid hz
    rw [hz] at hlen ⊢
    clear hz HO o9
    by_cases hlt : i < N
    · have hlti : (i : Int) < N := by omega
      have hi0 : (0 : Int) ≤ i := by omega
      obtain ⟨⟨p0, p1, p2⟩, hp⟩ : ∃ x, L[i]? = some x := ⟨_, List.getElem?_eq_getElem (by rw [HN.out]; exact hlt)⟩
      obtain ⟨c0, c1, c2⟩ := (HA.out.own hr).2 i _ hp
      simp only at c0 c1 c2
      have hsucc := outsTo_succ hp
      have HSU := Lib.hid hsucc
      clear hp hsucc
      have hr2 : Own w (bs ++ []) wr := by simpa using hr
      by_cases hx : p0 = 2
      · subst hx
        have h4 := hr2.alloc (.cells #[.int .i64 i] 3)
        have hsrc := src_one wr (i : Int)
        have HSRC := Lib.hid hsrc
        clear hsrc
        go_wp2_with (at_builtin; refine wpList_app_ints rfl _ _ rfl rfl rfl HO9.out h4 HSRC.out (by rw [HZ.out]; simp; omega) ?_; intro v' w' bs' k1 k2 k3; have K1 := Lib.hid k1; clear k1 k3)
        refine ⟨⟨i + 1, bs', by go_num, by omega, ?_, by simpa using k2⟩, by simp [intOf]; omega⟩
        show IntsOwn true v' (outsTo L (i + 1)) bs'
        rw [HSU.out, if_pos rfl]
        exact K1.out
      · have hxb : (p0 == 2) = false := beq_eq_false_iff_ne.2 hx
        go_wp2_with fail
        refine ⟨⟨i + 1, bs, by go_num, by omega, ?_, hr⟩, by simp [intOf]; omega⟩
        show IntsOwn true _ (outsTo L (i + 1)) bs
        rw [HSU.out, if_neg hx, List.append_nil]
        exact HO9.out
    · obtain rfl : i = N := by omega
      have hlti : ¬ (i : Int) < i := by omega
      go_wp2_with fail
      go_ret
      exact ⟨_, rfl, bs, HO9.out, h.join hr⟩
end
end Go.Proofs.Ytljcndcmdphmgaa
