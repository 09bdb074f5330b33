/-
  Texts of this claim, joined. No condition.
-/
import Derived.Test.YtljcndcmdphmgaaZm6
import Derived.Test.YtljcndcmdphmgaaZm3
/-
  The invariant of buddies that are played: plain Lean.
-/
namespace Go.Proofs.Ytljcndcmdphmgaa
open Go.RowKit
def castL (l : List Nat) : List Int := l.map fun n => ((n : Nat) : Int)
/-- a table that may be, without two free buddies; what is out is what is listed -/
def BInv (L : List Pg) (out : List Int) : Prop := ∃ bs, Tab L bs ∧ NoBud L ∧ out.Perm (castL (outPl 0 bs))
theorem castL_append (a b : List Nat) : castL (a ++ b) = castL a ++ castL b := by simp [castL]
theorem castL_inj : ∀ {a b : List Nat}, castL a = castL b → a = b
  | [], [], _ => rfl
  | [], y :: b, h => by simp [castL] at h
  | x :: a, [], h => by simp [castL] at h
  | x :: a, y :: b, h => by
    simp only [castL, List.map_cons, List.cons.injEq] at h
    have h1 : x = y := by have := h.1; omega
    rw [h1, castL_inj (a := a) (b := b) h.2]
theorem outPl_fb (i o : Nat) (bs : List Pg) : outPl i (fb o :: bs) = outPl (i + 2 ^ o) bs := by
  rw [outPl, fb_size]
  simp [fb]
theorem binv_fresh (n : Nat) : BInv (freshL n) [] := ⟨_, fresh_tab n, fresh_nobud n, by rw [fresh_out]; exact List.Perm.refl _⟩
theorem bInv_tab {L : List Pg} {out : List Int} (h : BInv L out) : ∃ bs, Tab L bs := by
  obtain ⟨bs, h, -⟩ := h
  exact ⟨bs, h⟩
theorem binv_alloc {L : List Pg} {out : List Int} (h : BInv L out) {order a k : Nat} {c : Int} (hl : LeastIs L order a (order + k)) (hc : 0 ≤ c ∧ c ≤ 8) :
    BInv (allocL L a order k c) (out ++ [(a : Int)]) ∧ (allocL L a order k c).length = L.length ∧
      ∀ bs, Tab L bs → ∃ bs', Tab (allocL L a order k c) bs' ∧ freeSum bs' + 2 ^ order = freeSum bs := by
  obtain ⟨bs, hT, hN, hp⟩ := h
  obtain ⟨b1, b2, rfl, hb⟩ := tab_block hT hl.2.2.1 (fb_kind _)
  have hk := hl.2.1
  obtain ⟨hT', hal, hle⟩ := alloc_tab hT hk hc
  have hN' := nobud_alloc hN hT hk hc
  rw [hb] at hT' hN' hal hle
  have hsz : pgSize ((2 : Int), (order : Int), c) = 2 ^ order := by simp [pgSize]
  have hrl := rests_len order k
  have hlen : (allocL L a order k c).length = L.length := by
    have h1 := tab_len hT'
    have h2 := tab_len hT
    rw [lay_append, List.length_append, lay_cons_len, lay_append, List.length_append, hsz] at h1
    rw [lay_append, List.length_append, lay_cons_len, fb_size] at h2
    unfold allocL
    omega
  refine ⟨⟨_, hT', hN', ?_⟩, hlen, fun bs hbs => ⟨_, hT', ?_⟩⟩
  · rw [outPl_append] at hp ⊢
    rw [Nat.zero_add, hb] at hp ⊢
    have e1 : outPl a (fb (order + k) :: b2) = outPl (a + 2 ^ (order + k)) b2 := by
      rw [outPl, fb_size]
      simp [fb]
    have e2 : outPl a ((2, (order : Int), c) :: (rests order k ++ b2)) = [a] ++ outPl (a + 2 ^ (order + k)) b2 := by
      rw [outPl, hsz, outPl_append, rests_out, List.nil_append, show a + 2 ^ order + (lay (rests order k)).length = a + 2 ^ (order + k) from by omega]
      simp
    rw [e1, castL_append] at hp
    rw [e2, castL_append, castL_append]
    refine (hp.append_right [(a : Int)]).trans ?_
    rw [List.append_assoc]
    exact List.Perm.append_left _ List.perm_append_comm
  · have h1 : freeSum bs = freeSum (b1 ++ fb (order + k) :: b2) := by
      have := tab_from hbs
      rw [tab_from hT] at this
      have e1 := freeSum_places bs 0
      rw [← this, freeSum_places] at e1
      exact e1.symm
    have hrf := rests_free order k
    rw [h1, freeSum_append, freeSum_append, freeSum, freeSum, freeSum_append, fb_size, hsz]
    simp only [fb]
    simp
    omega
theorem outPl_mem : ∀ (bs : List Pg) (i x : Nat), x ∈ outPl i bs → ∃ b1 q b2, bs = b1 ++ q :: b2 ∧ q.1 = 2 ∧ x = i + (lay b1).length
  | [], i, x, h => by simp [outPl] at h
  | p :: bs, i, x, h => by
    rw [outPl, List.mem_append] at h
    rcases h with h | h
    · split at h
      · rename_i hp
        exact ⟨[], p, bs, rfl, hp, by simp at h; simp [lay, h]⟩
      · simp at h
    · obtain ⟨b1, q, b2, rfl, hq, hx⟩ := outPl_mem bs _ x h
      exact ⟨p :: b1, q, b2, rfl, hq, by rw [lay_cons_len]; omega⟩
theorem binv_out {L : List Pg} {out : List Int} (h : BInv L out) {x : Int} (hx : x ∈ out) : ∃ (p o : Nat) (c : Int), x = p ∧ L[p]? = some (2, (o : Int), c) := by
  obtain ⟨bs, hT, hN, hp⟩ := h
  have := hp.mem_iff.1 hx
  obtain ⟨p, hpm, rfl⟩ := List.mem_map.1 this
  obtain ⟨b1, q, b2, rfl, hq, hpe⟩ := outPl_mem bs 0 p hpm
  have hr := (row_append b1 _ 0).1 hT.2
  have ho := pgHead_order hr.2.1
  have hat := tab_at hT
  rw [Nat.zero_add] at hpe
  refine ⟨p, q.2.1.toNat, q.2.2, rfl, ?_⟩
  rw [hpe, hat]
  obtain ⟨q0, q1, q2⟩ := q
  simp only at hq ho ⊢
  rw [hq, Int.toNat_of_nonneg ho.1]
theorem binv_free {L : List Pg} {out out' : List Int} (h : BInv L out) {p o : Nat} {c : Int} (hp : L[p]? = some (2, (o : Int), c)) (hperm : out.Perm ((p : Int) :: out')) :
    BInv (freeL L p o) out' ∧ (freeL L p o).length = L.length ∧ ∀ bs, Tab L bs → ∃ bs', Tab (freeL L p o) bs' ∧ freeSum bs' = freeSum bs + 2 ^ o := by
  obtain ⟨bs, hT, hN, hpm⟩ := h
  obtain ⟨b1, b2, rfl, hb⟩ := tab_block hT hp (by simp)
  have hr := (row_append b1 _ 0).1 hT.2
  rw [Nat.zero_add, hb] at hr
  have hsz : pgSize ((2 : Int), (o : Int), c) = 2 ^ o := by simp [pgSize]
  have ho := pgHead_order hr.2.1
  simp only at ho
  have hal := hr.2.2.1
  rw [hsz] at hal
  obtain ⟨b1', c1', c2', hT1, e1, e2, e3, e4, e5, e6, e7⟩ := join_tab (page := p) (o0 := o) (10 - o) p o b1 [(2, (o : Int), c)] b2 (by omega) (by simpa using hT) hb (by rw [lay_one_len, hsz]) hal (by simp [freeSum]) (by simp [outPl])
  have hll := tab_len hT1
  rw [lay_append, lay_append, List.length_append, List.length_append, e1, e2] at hll
  have hT2 := put_tab (x := fb (bJoin L (10 - o) p o).2) hT1 (by rw [e2, fb_size]) (fb_head e4) (by rw [e1, fb_size]; exact e3)
  rw [e1] at hT2
  have hN2 := nobud_free hN (by omega) e3 e7
  refine ⟨⟨_, hT2, hN2, ?_⟩, pgPut_len (by rw [fb_size]; omega), fun bs hbs => ⟨_, hT2, ?_⟩⟩
  · have ho1 : outPl 0 (b1 ++ (2, (o : Int), c) :: b2) = outPl 0 (b1' ++ (c1' ++ c2')) := by
      have hh := tab_from hT
      rw [tab_from hT1] at hh
      have key : ∀ (bs : List Pg) (i : Nat), castL (outPl i bs) = ((places i bs).filter fun y => decide (y.2.1 = 2)).map (·.1) := by
        intro bs
        induction bs with
        | nil => intro i; rfl
        | cons q bs ih =>
          intro i
          rw [outPl, castL_append, ih, places]
          by_cases hq : q.1 = 2 <;> simp [hq, castL]
      have h1 := key (b1 ++ (2, (o : Int), c) :: b2) 0
      have h2 := key (b1' ++ (c1' ++ c2')) 0
      rw [← hh, ← h2] at h1
      exact castL_inj h1
    rw [ho1, outPl_append, outPl_append, Nat.zero_add, e1, e6, e2] at hpm
    have h3 := hperm.symm.trans hpm
    rw [castL_append, castL_append] at h3
    rw [outPl_append, Nat.zero_add, e1, outPl_fb, castL_append]
    have h4 : ((p : Int) :: out').Perm ((p : Int) :: (castL (outPl 0 b1') ++ castL (outPl ((bJoin L (10 - o) p o).1 + 2 ^ (bJoin L (10 - o) p o).2) c2'))) := by
      refine h3.trans ?_
      simp only [castL, List.map_cons, List.map_nil, List.singleton_append]
      exact List.perm_middle
    exact List.Perm.cons_inv h4
  · have h1 : freeSum bs = freeSum (b1' ++ (c1' ++ c2')) := by
      have := tab_from hbs
      rw [tab_from hT1] at this
      have e1 := freeSum_places bs 0
      rw [← this, freeSum_places] at e1
      exact e1.symm
    rw [h1, freeSum_append, freeSum_append, freeSum_append, freeSum, fb_size]
    simp only [fb]
    simp
    omega
end Go.Proofs.Ytljcndcmdphmgaa

/-
  Both buddies, call by call: what Alloc and Free make of a table (one answer each); outs. No condition.
-/
namespace Go.Proofs.Ytljcndcmdphmgaa
open Go.RowKit
attribute [local go_sem ↓] Go.wp_at_zero Go.wp_at_succ
theorem least_one {L : List Pg} {q a o a' o' : Nat} (h : LeastIs L q a o) (h' : LeastIs L q a' o') : a = a' ∧ o = o' := by
  have ho : o = o' := by
    rcases Nat.lt_trichotomy o o' with h1 | h1 | h1
    · exact absurd h.2.2.1 (h'.2.2.2.1 o h.1 h1 a)
    · exact h1
    · exact absurd h'.2.2.1 (h.2.2.2.1 o' h'.1 h1 a')
  subst ho
  refine ⟨?_, rfl⟩
  rcases Nat.lt_trichotomy a a' with h1 | h1 | h1
  · exact absurd h.2.2.1 (h'.2.2.2.2 a h1)
  · exact h1
  · exact absurd h'.2.2.1 (h.2.2.2.2 a' h1)
theorem least_none {L : List Pg} {q a o : Nat} (h : LeastIs L q a o) (h' : NoneIs L q) : False := h' o h.1 h.2.1 a h.2.2.1
def AllocOk (order c : Int) : Prop := 0 ≤ order ∧ order ≤ 10 ∧ 0 ≤ c ∧ c ≤ 8
/-- what Alloc answers, and makes of the table -/
def AllocIs (L : List Pg) (order c p e : Int) (L' : List Pg) : Prop :=
  (¬ AllocOk order c ∧ p = 0 ∧ e = 2 ∧ L' = L) ∨ (AllocOk order c ∧ NoneIs L order.toNat ∧ p = 0 ∧ e = 7 ∧ L' = L) ∨
  (AllocOk order c ∧ ∃ a k : Nat, LeastIs L order.toNat a (order.toNat + k) ∧ p = a ∧ e = 0 ∧ L' = allocL L a order.toNat k c)
theorem allocIs_one {L L1 L2 : List Pg} {order c p e q f : Int} (h : AllocIs L order c p e L1) (h' : AllocIs L order c q f L2) : p = q ∧ e = f ∧ L1 = L2 := by
  rcases h with ⟨h1, rfl, rfl, rfl⟩ | ⟨h1, h2, rfl, rfl, rfl⟩ | ⟨h1, a, k, h2, rfl, rfl, rfl⟩ <;> rcases h' with ⟨g1, rfl, rfl, rfl⟩ | ⟨g1, g2, rfl, rfl, rfl⟩ | ⟨g1, a', k', g2, rfl, rfl, rfl⟩ <;>
    first | exact ⟨rfl, rfl, rfl⟩ | exact absurd h1 g1 | exact absurd g1 h1 | exact (least_none g2 h2).elim | exact (least_none h2 g2).elim | skip
  obtain ⟨rfl, hk⟩ := least_one h2 g2
  obtain rfl : k = k' := by omega
  exact ⟨rfl, rfl, rfl⟩
theorem allocIs_tab {L L' bs : List Pg} {order c p e : Int} (hT : Tab L bs) (h : AllocIs L order c p e L') : (∃ bs', Tab L' bs') ∧ L'.length = L.length := by
  rcases h with ⟨h1, rfl, rfl, rfl⟩ | ⟨h1, h2, rfl, rfl, rfl⟩ | ⟨h1, a, k, h2, rfl, rfl, rfl⟩
  · exact ⟨⟨_, hT⟩, rfl⟩
  · exact ⟨⟨_, hT⟩, rfl⟩
  · obtain ⟨b1, b2, rfl, hb⟩ := tab_block hT h2.2.2.1 (fb_kind _)
    obtain ⟨hT', -, hle⟩ := alloc_tab hT h2.2.1 (c := c) ⟨h1.2.2.1, h1.2.2.2⟩
    rw [hb] at hT' hle
    refine ⟨⟨_, hT'⟩, ?_⟩
    have hp := Nat.pow_le_pow_right (show 0 < 2 from by omega) (show order.toNat ≤ order.toNat + k by omega)
    obtain ⟨q, hq⟩ : ∃ q, order.toNat = q := ⟨_, rfl⟩
    rw [hq] at hle hp ⊢
    have hsz : pgSize ((2 : Int), ((q : Nat) : Int), c) = 2 ^ q := by show 2 ^ ((q : Nat) : Int).toNat = _; rw [Int.toNat_natCast]
    have hs := (split_eq a q (2, ((q : Nat) : Int), c) hsz k L hle).2
    unfold allocL
    rw [pgPut_len (by rw [hs, hsz]; omega), hs]
/-- what Free answers, and makes of the table -/
def BFreeIs (L : List Pg) (page e : Int) (L' : List Pg) : Prop :=
  ((∀ p : Pg, 0 ≤ page → L[page.toNat]? = some p → p.1 ≠ 2) ∧ e = 60 ∧ L' = L) ∨ (∃ (p o : Nat) (c : Int), page = p ∧ L[p]? = some (2, (o : Int), c) ∧ e = 0 ∧ L' = freeL L p o)
theorem bfreeIs_one {L L1 L2 : List Pg} {page e f : Int} (h : BFreeIs L page e L1) (h' : BFreeIs L page f L2) : e = f ∧ L1 = L2 := by
  rcases h with ⟨h1, rfl, rfl⟩ | ⟨p, o, c, rfl, h1, rfl, rfl⟩ <;> rcases h' with ⟨g1, rfl, rfl⟩ | ⟨q, o', c', g0, g1, rfl, rfl⟩
  · exact ⟨rfl, rfl⟩
  · exact absurd rfl (h1 (2, (o' : Int), c') (by omega) (by rw [g0, Int.toNat_natCast]; exact g1))
  · exact absurd rfl (g1 (2, (o : Int), c) (by omega) (by rw [Int.toNat_natCast]; exact h1))
  · obtain rfl : p = q := by omega
    rw [h1] at g1
    simp only [Option.some.injEq, Prod.mk.injEq, true_and] at g1
    obtain rfl : o = o' := by have := g1.1; omega
    exact ⟨rfl, rfl⟩
theorem tab_free {L bs : List Pg} (hT : Tab L bs) {p o : Nat} {c : Int} (hp : L[p]? = some (2, (o : Int), c)) : (∃ bs', Tab (freeL L p o) bs') ∧ (freeL L p o).length = L.length := by
  obtain ⟨b1, b2, rfl, hb⟩ := tab_block hT hp (by simp)
  have hr := (row_append b1 _ 0).1 hT.2
  rw [Nat.zero_add, hb] at hr
  have hsz : pgSize ((2 : Int), (o : Int), c) = 2 ^ o := by simp [pgSize]
  have ho := pgHead_order hr.2.1
  simp only at ho
  have hal := hr.2.2.1
  rw [hsz] at hal
  obtain ⟨b1', c1', c2', hT1, e1, e2, e3, e4, e5, e6, e7⟩ := join_tab (page := p) (o0 := o) (10 - o) p o b1 [(2, (o : Int), c)] b2 (by omega) (by simpa using hT) hb (by rw [lay_one_len, hsz]) hal (by simp [freeSum]) (by simp [outPl])
  have hll := tab_len hT1
  rw [lay_append, lay_append, List.length_append, List.length_append, e1, e2] at hll
  have hT2 := put_tab (x := fb (bJoin L (10 - o) p o).2) hT1 (by rw [e2, fb_size]) (fb_head e4) (by rw [e1, fb_size]; exact e3)
  rw [e1] at hT2
  exact ⟨⟨_, hT2⟩, pgPut_len (by rw [fb_size]; omega)⟩
theorem bfreeIs_tab {L L' bs : List Pg} {page e : Int} (hT : Tab L bs) (h : BFreeIs L page e L') : (∃ bs', Tab L' bs') ∧ L'.length = L.length := by
  rcases h with ⟨h1, rfl, rfl⟩ | ⟨p, o, c, rfl, h1, rfl, rfl⟩
  · exact ⟨⟨_, hT⟩, rfl⟩
  · exact tab_free hT h1
theorem bfreeIs_case {L bs : List Pg} (hT : Tab L bs) (page : Int) : (∀ p : Pg, 0 ≤ page → L[page.toNat]? = some p → p.1 ≠ 2) ∨ (∃ (p o : Nat) (c : Int), page = p ∧ L[p]? = some (2, (o : Int), c)) := by
  by_cases h : ∀ p : Pg, 0 ≤ page → L[page.toNat]? = some p → p.1 ≠ 2
  · exact .inl h
  · right
    have : ∃ p : Pg, 0 ≤ page ∧ L[page.toNat]? = some p ∧ p.1 = 2 := by
      apply Classical.byContradiction
      intro hn
      exact h fun p h1 h2 h3 => hn ⟨p, h1, h2, h3⟩
    obtain ⟨⟨p0, p1, p2⟩, h1, h2, h3⟩ := this
    simp only at h3
    subst h3
    have := pgHead_order (tab_align hT h2 (by simp)).2.2
    simp only at this
    exact ⟨page.toNat, p1.toNat, p2, by omega, by rw [h2, Int.toNat_of_nonneg this.1]⟩
section
variable {W w : World} {m bl : List (Nat × Obj)} {pb rb : Nat} {L : List Pg}
theorem alloc_is (h : Own W (bl ++ m) w) (hb : BdO pb L bl) {bs0 : List Pg} (hT : Tab L bs0) (hL1 : 1 ≤ L.length) (hL : L.length ≤ 1024) (order c : Int) :
    Calls Try.prog 28 #[.pointer (some ⟨pb, 0, none⟩), .int .i64 order, .int .i64 c] w fun x w' => ∃ p e L' bl', x = .returned (.tuple #[.int .i64 p, .int .i64 e]) ∧ Hid (AllocIs L order c p e L') ∧ Hid (BdO pb L' bl') ∧ Own W (bl' ++ m) w' := by
  have hpost : ∀ x w', AllocPost W m bl pb L order c x w' → ∃ p e L' bl', x = .returned (.tuple #[.int .i64 p, .int .i64 e]) ∧ Hid (AllocIs L order c p e L') ∧ Hid (BdO pb L' bl') ∧ Own W (bl' ++ m) w' := by
    rintro x w' (⟨h1, hx, hO⟩ | ⟨h1, h2, hx, hO⟩ | ⟨h1, a, k, bl', h2, hx, h3, hO⟩)
    · exact ⟨0, 2, L, bl, hx, .inl ⟨by unfold AllocOk; omega, rfl, rfl, rfl⟩, hb, hO⟩
    · exact ⟨0, 7, L, bl, hx, .inr (.inl ⟨h1, h2, rfl, rfl, rfl⟩), hb, hO⟩
    · exact ⟨a, 0, _, bl', hx, .inr (.inr ⟨h1, a, k, h2, rfl, rfl, rfl⟩), h3, hO⟩
  by_cases hok : order < 0 ∨ 10 < order ∨ c < 0 ∨ 8 < c
  · exact (alloc_bad h hb hL1 order c hok).mono hpost
  · obtain ⟨o, rfl⟩ : ∃ o : Nat, order = o := ⟨order.toNat, by omega⟩
    exact (alloc_ok h hb hT hL1 hL o c (by omega) (by omega) (by omega)).mono hpost
theorem ralloc_is (h : Own W (bl ++ m) w) (hb : RdO rb L bl) {bs0 : List Pg} (hT : Tab L bs0) (hL1 : 1 ≤ L.length) (hL : L.length ≤ 1024) (order c : Int) :
    Calls Try.prog 31 #[.pointer (some ⟨rb, 0, none⟩), .int .i64 order, .int .i64 c] w fun x w' => ∃ p e L' bl', x = .returned (.tuple #[.int .i64 p, .int .i64 e]) ∧ Hid (AllocIs L order c p e L') ∧ Hid (RdO rb L' bl') ∧ Own W (bl' ++ m) w' := by
  have hpost : ∀ x w', RAllocPost W m bl rb L order c x w' → ∃ p e L' bl', x = .returned (.tuple #[.int .i64 p, .int .i64 e]) ∧ Hid (AllocIs L order c p e L') ∧ Hid (RdO rb L' bl') ∧ Own W (bl' ++ m) w' := by
    rintro x w' (⟨h1, hx, hO⟩ | ⟨h1, h2, hx, hO⟩ | ⟨h1, a, k, bl', h2, hx, h3, hO⟩)
    · exact ⟨0, 2, L, bl, hx, .inl ⟨by unfold AllocOk; omega, rfl, rfl, rfl⟩, hb, hO⟩
    · exact ⟨0, 7, L, bl, hx, .inr (.inl ⟨h1, h2, rfl, rfl, rfl⟩), hb, hO⟩
    · exact ⟨a, 0, _, bl', hx, .inr (.inr ⟨h1, a, k, h2, rfl, rfl, rfl⟩), h3, hO⟩
  by_cases hok : order < 0 ∨ 10 < order ∨ c < 0 ∨ 8 < c
  · exact (ralloc_bad h order c hok).mono hpost
  · obtain ⟨o, rfl⟩ : ∃ o : Nat, order = o := ⟨order.toNat, by omega⟩
    exact (ralloc_ok h hb hT hL1 hL o c (by omega) (by omega) (by omega)).mono hpost
theorem free_is (h : Own W (bl ++ m) w) (hb : BdO pb L bl) {bs0 : List Pg} (hT : Tab L bs0) (hL1 : 1 ≤ L.length) (hL : L.length ≤ 1024) (page : Int) :
    Calls Try.prog 25 #[.pointer (some ⟨pb, 0, none⟩), .int .i64 page] w fun x w' => ∃ e L' bl', x = .returned (.int .i64 e) ∧ Hid (BFreeIs L page e L') ∧ Hid (BdO pb L' bl') ∧ Own W (bl' ++ m) w' := by
  rcases bfreeIs_case hT page with h1 | ⟨p, o, c, rfl, h1⟩
  · exact (Free_bad h hb hL1 page h1).mono fun x w' ⟨hx, hO⟩ => ⟨60, L, bl, hx, .inl ⟨h1, rfl, rfl⟩, hb, hO⟩
  · exact (Free_ok h hb hT hL1 hL p o c h1).mono fun x w' ⟨bl', hx, hb', hO⟩ => ⟨0, _, bl', hx, .inr ⟨p, o, c, rfl, h1, rfl, rfl⟩, hb', hO⟩
theorem rfree_is (h : Own W (bl ++ m) w) (hb : RdO rb L bl) {bs0 : List Pg} (hT : Tab L bs0) (hL1 : 1 ≤ L.length) (hL : L.length ≤ 1024) (page : Int) :
    Calls Try.prog 33 #[.pointer (some ⟨rb, 0, none⟩), .int .i64 page] w fun x w' => ∃ e L' bl', x = .returned (.int .i64 e) ∧ Hid (BFreeIs L page e L') ∧ Hid (RdO rb L' bl') ∧ Own W (bl' ++ m) w' := by
  rcases bfreeIs_case hT page with h1 | ⟨p, o, c, rfl, h1⟩
  · exact (rFree_bad h hb hL1 page h1).mono fun x w' ⟨hx, hO⟩ => ⟨60, L, bl, hx, .inl ⟨h1, rfl, rfl⟩, hb, hO⟩
  · exact (rFree_ok h hb hT hL1 hL p o c h1).mono fun x w' ⟨bl', hx, hb', hO⟩ => ⟨0, _, bl', hx, .inr ⟨p, o, c, rfl, h1, rfl, rfl⟩, hb', hO⟩
/-- Frees, of any order -/
theorem frees_any (h : Own W (bl ++ m) w) (hb : BdO pb L bl) {bs0 : List Pg} (hT : Tab L bs0) (hL1 : 1 ≤ L.length) (hL : L.length ≤ 1024) (o : Int) :
    Calls Try.prog 26 #[.pointer (some ⟨pb, 0, none⟩), .int .i64 o] w fun e w' => ∃ v bs, e = .returned v ∧ IntsOwn true v (rfreesTo L o L.length) bs ∧ Own W (bs ++ (bl ++ m)) w' := by
  by_cases ho : o < 0 ∨ 10 < o
  · rw [rfreesTo_bad hT o ho]
    exact (frees_bad h hb hL1 o ho).mono fun e w' ⟨he, hO⟩ => ⟨_, [], he, SlO.nil _ _ _, hO⟩
  · obtain ⟨q, rfl⟩ : ∃ q : Nat, o = q := ⟨o.toNat, by omega⟩
    rw [rfreesTo_ok]
    exact frees_ok h hb hT hL1 hL q (by omega)
/-- the places of what is out -/
def outsTo (L : List Pg) (n : Nat) : List Int := ((List.range n).filter fun a => decide ((L[a]?).map (·.1) = some 2)).map fun a => ((a : Nat) : Int)
theorem outsTo_len (L : List Pg) (n : Nat) : (outsTo L n).length ≤ n := by
  unfold outsTo
  rw [List.length_map]
  exact Nat.le_trans (List.length_filter_le _ _) (by simp)
theorem outsTo_succ {L : List Pg} {n : Nat} {p : Pg} (h : L[n]? = some p) : outsTo L (n + 1) = outsTo L n ++ if p.1 = 2 then [(n : Int)] else [] := by
  unfold outsTo
  rw [List.range_succ, List.filter_append, List.map_append]
  by_cases hp : p.1 = 2 <;> simp [h, hp]
set_option maxHeartbeats 2000000 in
theorem outs_spec {v : Value} (h : Own W m w) (hs : PgS w v L) (hL1 : 1 ≤ L.length) (hL : L.length ≤ 1024) :
    Calls Try.prog 32 #[v] w fun e w' => ∃ v' bs, e = .returned v' ∧ IntsOwn true v' (outsTo L L.length) bs ∧ Own W (bs ++ m) w' := by
  have HS := Lib.hid hs
  obtain ⟨A, c, rfl, g1, g2, g3⟩ := hs
  unfold maxLen at g2
  obtain ⟨g, o, rfl, hA⟩ := g3 (by omega)
  obtain ⟨N, hN⟩ : ∃ N, L.length = N := ⟨_, rfl⟩
  have HN := Lib.hid hN
  have HA := Lib.hid hA
  rw [hN] at hL hL1 g1 ⊢
  clear g3 hN hA
  go_enter Try.func32, Try.ntmps32
  go_wp2_with fail
  go_loopw [3, 4] (fun out iv wr => ∃ (i : Nat) (bs : List (Nat × Obj)), iv = .int .i64 i ∧ i ≤ N ∧ Hid (IntsOwn true out (outsTo L i) bs) ∧ Own w bs wr) (fun _ iv _ => N - (intOf iv).toNat)
  case atStart => exact ⟨0, [], rfl, by omega, SlO.nil _ _ _, Own.self w⟩
  case round =>
    obtain ⟨i, bs, rfl, hi, HO, hr⟩ := hrel
    obtain ⟨A1, c1, hv, -, -⟩ := HO.out.slice
    subst hv
    have hlen := outsTo_len L i
    obtain ⟨z, hz⟩ : ∃ z, (outsTo L i).length = z := ⟨_, rfl⟩
    have o9 : IntsOwn true (.slice A1 z c1) (outsTo L i) bs := by have := HO.out; rwa [hz] at this
    have HO9 := Lib.hid o9
    have HZ := Lib.hid hz
    rw [hz] at hlen ⊢
    clear hz HO o9
    by_cases hlt : i < N
    · have hlti : (i : Int) < N := by omega
      have hi0 : (0 : Int) ≤ i := by omega
      obtain ⟨⟨p0, p1, p2⟩, hp⟩ : ∃ x, L[i]? = some x := ⟨_, List.getElem?_eq_getElem (by rw [HN.out]; exact hlt)⟩
      obtain ⟨c0, c1, c2⟩ := (HA.out.own hr).2 i _ hp
      simp only at c0 c1 c2
      have hsucc := outsTo_succ hp
      have HSU := Lib.hid hsucc
      clear hp hsucc
      have hr2 : Own w (bs ++ []) wr := by simpa using hr
      by_cases hx : p0 = 2
      · subst hx
        have h4 := hr2.alloc (.cells #[.int .i64 i] 3)
        have hsrc := src_one wr (i : Int)
        have HSRC := Lib.hid hsrc
        clear hsrc
        go_wp2_with (at_builtin; refine wpList_app_ints rfl _ _ rfl rfl rfl HO9.out h4 HSRC.out (by rw [HZ.out]; simp; omega) ?_; intro v' w' bs' k1 k2 k3; have K1 := Lib.hid k1; clear k1 k3)
        refine ⟨⟨i + 1, bs', by go_num, by omega, ?_, by simpa using k2⟩, by simp [intOf]; omega⟩
        show IntsOwn true v' (outsTo L (i + 1)) bs'
        rw [HSU.out, if_pos rfl]
        exact K1.out
      · have hxb : (p0 == 2) = false := beq_eq_false_iff_ne.2 hx
        go_wp2_with fail
        refine ⟨⟨i + 1, bs, by go_num, by omega, ?_, hr⟩, by simp [intOf]; omega⟩
        show IntsOwn true _ (outsTo L (i + 1)) bs
        rw [HSU.out, if_neg hx, List.append_nil]
        exact HO9.out
    · obtain rfl : i = N := by omega
      have hlti : ¬ (i : Int) < i := by omega
      go_wp2_with fail
      go_ret
      exact ⟨_, rfl, bs, HO9.out, h.join hr⟩
end
end Go.Proofs.Ytljcndcmdphmgaa

/-
  What the methods of near.Near do: each function once.
-/
namespace Go.Proofs.Ytljcndcmdphmgaa
open Go.RowKit

/-- a list of pages as memory has it: its slice, what it holds, the block that it owns -/
structure NL where
  v : Value
  xs : List Int
  bs : List (Nat × Obj)
def NL.ok (x : NL) : Prop := IntsOwn true x.v x.xs x.bs
def nlNil : NL := ⟨.slice none 0 0, [], []⟩
theorem nlNil_ok : nlNil.ok := SlO.nil _ _ _

def nrBlocks (T : TypeId) (b bl : Nat) (lim : Int) (L : List NL) : List (Nat × Obj) :=
  [(b, .cells #[.slice (some ⟨bl, 0, none⟩) L.length L.length, .int .i64 lim] T), (bl, .cells (L.map (·.v)).toArray 38)] ++ L.flatMap (·.bs)

section
variable {T : TypeId} {W : World} {m : List (Nat × Obj)} {w : World} {b bl : Nat} {lim : Int} {L : List NL}

theorem nrHead (h : Own W (nrBlocks T b bl lim L ++ m) w) : w.cell? ⟨b, 0, none⟩ = some (.slice (some ⟨bl, 0, none⟩) L.length L.length) := by
  rw [h.cell (List.mem_append_left _ List.mem_cons_self)]; rfl
theorem nrLim (h : Own W (nrBlocks T b bl lim L ++ m) w) : w.cell? ⟨b, 1, none⟩ = some (.int .i64 lim) := by
  rw [h.cell (List.mem_append_left _ List.mem_cons_self)]; rfl
theorem nrCell (h : Own W (nrBlocks T b bl lim L ++ m) w) {i : Nat} {x : NL} (hx : L[i]? = some x) : w.cell? ⟨bl, i, none⟩ = some x.v := by
  rw [h.cell (List.mem_append_left _ (List.mem_cons_of_mem _ List.mem_cons_self))]; simp [hx]
theorem nrFree (h : Own W (nrBlocks T b bl lim L ++ m) w) (i : Nat) : w.frozen? ⟨bl, i, none⟩ = false :=
  h.frozen (List.mem_append_left _ (List.mem_cons_of_mem _ List.mem_cons_self)) i
theorem nrLt (h : Own W (nrBlocks T b bl lim L ++ m) w) : b < w.heap.size ∧ bl < w.heap.size :=
  ⟨h.lt (List.mem_append_left _ List.mem_cons_self), h.lt (List.mem_append_left _ (List.mem_cons_of_mem _ List.mem_cons_self))⟩
theorem nr_split (L : List NL) {i : Nat} {x : NL} (hx : L[i]? = some x) : L = L.take i ++ x :: L.drop (i + 1) ∧ ∀ y, L.set i y = L.take i ++ y :: L.drop (i + 1) := by
  obtain ⟨hi, rfl⟩ := List.getElem?_eq_some_iff.1 hx
  refine ⟨?_, fun y => List.set_eq_take_append_cons_drop.trans (by rw [if_pos hi])⟩
  have := List.take_append_drop i L
  rw [List.drop_eq_getElem_cons hi] at this
  exact this.symm
/-- one list's block, and the rest -/
def nrRest (T : TypeId) (b bl : Nat) (lim : Int) (L : List NL) (i : Nat) : List (Nat × Obj) :=
  [(b, .cells #[.slice (some ⟨bl, 0, none⟩) L.length L.length, .int .i64 lim] T), (bl, .cells (L.map (·.v)).toArray 38)] ++ ((L.take i).flatMap (·.bs) ++ (L.drop (i + 1)).flatMap (·.bs))
theorem nr_perm (L : List NL) {i : Nat} {x : NL} (hx : L[i]? = some x) : (nrBlocks T b bl lim L ++ m).Perm (x.bs ++ (nrRest T b bl lim L i ++ m)) := by
  have hs := (nr_split L hx).1
  have e : L.flatMap (·.bs) = (L.take i).flatMap (·.bs) ++ (x.bs ++ (L.drop (i + 1)).flatMap (·.bs)) := by
    conv => lhs; rw [hs]
    rw [List.flatMap_append, List.flatMap_cons]
  unfold nrBlocks nrRest
  rw [e]
  rw [← List.append_assoc x.bs]
  refine List.Perm.append_right m ?_
  exact (List.Perm.append_left _ (perm_swap _ _ _)).trans (perm_swap _ _ _)
theorem nrOut (h : Own W (nrBlocks T b bl lim L ++ m) w) {i : Nat} {x : NL} (hx : L[i]? = some x) : Own W (x.bs ++ (nrRest T b bl lim L i ++ m)) w := h.perm (nr_perm L hx)
/-- a list's slice is stored: what it owned is what the new one owns, or another's -/
theorem nrIn {i : Nat} {x : NL} (hx : L[i]? = some x) {y : NL} (h : Own W (y.bs ++ (nrRest T b bl lim L i ++ m)) w) : Own W (nrBlocks T b bl lim (L.set i y) ++ m) (w.setCell ⟨bl, i, none⟩ y.v) := by
  have hi : i < L.length := (List.getElem?_eq_some_iff.1 hx).1
  unfold nrRest at h
  have h1 : Own W ((y.bs ++ [(b, .cells #[.slice (some ⟨bl, 0, none⟩) L.length L.length, .int .i64 lim] T)]) ++ (bl, .cells (L.map (·.v)).toArray 38) :: ((L.take i).flatMap (·.bs) ++ (L.drop (i + 1)).flatMap (·.bs) ++ m)) w := by
    simpa using h
  have h2 := h1.setIn i y.v
  have hx' : (L.set i y)[i]? = some y := by simp [hi]
  refine h2.perm ?_
  refine List.Perm.trans ?_ (nr_perm (T := T) (b := b) (bl := bl) (lim := lim) (m := m) (L.set i y) hx').symm
  unfold nrRest
  have e1 : ((L.map (·.v)).toArray.setIfInBounds i y.v) = ((L.set i y).map (·.v)).toArray := by simp [List.map_set]
  have e2 : (L.set i y).take i = L.take i := by rw [List.take_set_of_le (Nat.le_refl _)]
  have e3 : (L.set i y).drop (i + 1) = L.drop (i + 1) := by rw [List.drop_set_of_lt (by omega)]
  rw [e1, e2, e3, List.length_set]
  simp

def nrAt (L : List NL) (cpu : Int) : Option NL := if 0 ≤ cpu then L[cpu.toNat]? else none
theorem nrAt_in {cpu : Int} {x : NL} (h : nrAt L cpu = some x) : ∃ i : Nat, cpu = i ∧ i < L.length ∧ L[i]? = some x := by
  unfold nrAt at h
  split at h
  · obtain ⟨i, rfl⟩ := Int.eq_ofNat_of_zero_le ‹_›
    obtain ⟨hi, _⟩ := List.getElem?_eq_some_iff.1 h
    exact ⟨i, rfl, by simpa using hi, by simpa using h⟩
  · cases h
theorem nrAt_out {cpu : Int} (h : nrAt L cpu = none) : cpu < 0 ∨ L.length ≤ cpu := by
  unfold nrAt at h
  split at h
  · rw [List.getElem?_eq_none_iff] at h; omega
  · omega

set_option maxHeartbeats 400000 in
theorem list_in (h : Own W (nrBlocks T b bl lim L ++ m) w) (_hl : L.length ≤ 8) (i : Nat) (hi : i < L.length) :
    Calls Try.prog 98 #[.pointer (some ⟨b, 0, none⟩), .int .i64 i] w fun e w' => e = .returned (.pointer (some ⟨bl, i, none⟩)) ∧ w = w' := by
  have c0 := nrHead h
  go_enter Try.func98, Try.ntmps98
  go_wp2
  go_ret
  exact ⟨rfl, rfl⟩
set_option maxHeartbeats 400000 in
theorem list_out (h : Own W (nrBlocks T b bl lim L ++ m) w) (_hl : L.length ≤ 8) (cpu : Int) (h0 : cpu < 0 ∨ L.length ≤ cpu) :
    Calls Try.prog 98 #[.pointer (some ⟨b, 0, none⟩), .int .i64 cpu] w fun e w' => e = .returned (.pointer none) ∧ w = w' := by
  have c0 := nrHead h
  by_cases hc : cpu < 0
  · go_enter Try.func98, Try.ntmps98
    go_wp2
    go_ret
    exact ⟨rfl, rfl⟩
  · have h2 : (L.length : Int) ≤ cpu := by omega
    have h3 : 0 ≤ cpu := by omega
    clear h0
    go_enter Try.func98, Try.ntmps98
    go_wp2
    go_ret
    exact ⟨rfl, rfl⟩

/-- lists as they may be: cap pages at most -/
def NrOk (lim : Int) (L : List NL) : Prop := L.length ≤ 8 ∧ 0 ≤ lim ∧ lim ≤ 64 ∧ ∀ x ∈ L, x.ok ∧ x.xs.length ≤ 64
theorem NrOk.at_ (h : NrOk lim L) {i : Nat} {x : NL} (hx : L[i]? = some x) : x.ok ∧ x.xs.length ≤ 64 := h.2.2.2 x (List.mem_of_getElem? hx)

set_option maxHeartbeats 400000 in
theorem has1_spec {p : Nat} {n : Int} (hp : w.cell? ⟨p, 0, none⟩ = some (.int .i64 n)) {v : Value} {l : List Int} (hv : IntsSrc w v l) (hlen : l.length ≤ 60000) :
    Calls Try.prog 101 #[v, .pointer (some ⟨p, 0, none⟩)] w fun e w' => e = .returned (.bool (decide (n ∈ l))) ∧ w = w' := by
  go_enter Try.func101, Try.ntmps101
  go_wp2_with (go_at_call 102; refine (contains_spec hv hlen n).mono ?_; rintro e w' ⟨rfl, rfl⟩)
  go_ret
  exact ⟨rfl, rfl⟩
end
end Go.Proofs.Ytljcndcmdphmgaa

/-
  What the methods of near.Near do, on: Has, Take, Drain, List, New.
-/
namespace Go.Proofs.Ytljcndcmdphmgaa
open Go.RowKit
section
variable {T : TypeId} {W : World} {m : List (Nat × Obj)} {w : World} {b bl : Nat} {lim : Int} {L : List NL}

/-- which list holds a page; -1: none -/
def nrIdx (L : List NL) (n : Int) : Int := match L.findIdx? (fun x => decide (n ∈ x.xs)) with | some i => i | none => -1
def nrHas (L : List NL) (n : Int) : Bool := L.any fun x => decide (n ∈ x.xs)
theorem nrIdx_yes {n : Int} {k : Nat} {x : NL} (hk : L[k]? = some x) (hn : n ∈ x.xs) (h : ∀ j, j < k → ∀ y, L[j]? = some y → n ∉ y.xs) : nrIdx L n = k := by
  have : L.findIdx? (fun x => decide (n ∈ x.xs)) = some k := by
    rw [List.findIdx?_eq_some_iff_getElem]
    obtain ⟨hlt, he⟩ := List.getElem?_eq_some_iff.1 hk
    refine ⟨hlt, by simp [he, hn], fun j hj => ?_⟩
    simpa using h j hj _ (List.getElem?_eq_getElem (by omega))
  simp [nrIdx, this]
theorem nrIdx_no {n : Int} (h : ∀ j, j < L.length → ∀ y, L[j]? = some y → n ∉ y.xs) : nrIdx L n = -1 := by
  have : L.findIdx? (fun x => decide (n ∈ x.xs)) = none := by
    rw [List.findIdx?_eq_none_iff]
    intro x hx
    obtain ⟨j, hj, rfl⟩ := List.getElem_of_mem hx
    simpa using h j hj _ (List.getElem?_eq_getElem hj)
  simp [nrIdx, this]
theorem nrIdx_has (L : List NL) (n : Int) : decide (0 ≤ nrIdx L n) = nrHas L n := by
  unfold nrIdx nrHas
  cases h : L.findIdx? (fun x => decide (n ∈ x.xs)) with
  | none =>
    rw [List.findIdx?_eq_none_iff] at h
    have : (L.any fun x => decide (n ∈ x.xs)) = false := by
      rw [List.any_eq_false]; intro x hx; simpa using h x hx
    rw [this]; rfl
  | some i =>
    rw [List.findIdx?_eq_some_iff_getElem] at h
    obtain ⟨hlt, he, _⟩ := h
    have : (L.any fun x => decide (n ∈ x.xs)) = true := by
      rw [List.any_eq_true]; exact ⟨_, List.getElem_mem hlt, he⟩
    rw [this]; simp

set_option maxHeartbeats 400000 in
theorem nr_indexFunc_spec (h : Own W (nrBlocks T b bl lim L ++ m) w) (ok : NrOk lim L) {p : Nat} {n : Int} (hp : w.cell? ⟨p, 0, none⟩ = some (.int .i64 n)) :
    Calls Try.prog 109 #[.slice (some ⟨bl, 0, none⟩) L.length L.length, .func (.func 101) #[] #[.pointer (some ⟨p, 0, none⟩)]] w fun e w' => e = .returned (.int .i64 (nrIdx L n)) ∧ w = w' := by
  have hl8 := ok.1
  go_enter Try.func109, Try.ntmps109
  go_wp2_with fail
  go_loop [8] (fun k => ∃ i : Nat, i ≤ L.length ∧ k = .int .i64 i ∧ ∀ j, j < i → ∀ y, L[j]? = some y → n ∉ y.xs) (fun k => L.length - (intOf k).toNat)
  case atStart => exact ⟨0, Nat.zero_le _, rfl, fun j hj => absurd hj (by omega)⟩
  case round =>
    obtain ⟨i, hi, rfl, hno⟩ := hrel
    have HN := Lib.hid hno
    clear hno
    by_cases hlt : i < L.length
    · obtain ⟨x, hx⟩ : ∃ x, L[i]? = some x := ⟨_, List.getElem?_eq_getElem hlt⟩
      have cx := nrCell h hx
      have hsrc : IntsSrc w x.v x.xs := SlO.src (ok.at_ hx).1 (nrOut h hx)
      have hlx := (ok.at_ hx).2
      have HX := Lib.hid hx
      clear hx
      cases hin : decide (n ∈ x.xs) with
      | true =>
        go_wp2_with (go_at_call 101; refine (has1_spec hp hsrc (by omega)).mono ?_; rintro e w' ⟨rfl, rfl⟩; rw [hin])
        go_ret
        exact ⟨by rw [nrIdx_yes HX.out (by simpa using hin) HN.out]; rfl, rfl⟩
      | false =>
        go_wp2_with (go_at_call 101; refine (has1_spec hp hsrc (by omega)).mono ?_; rintro e w' ⟨rfl, rfl⟩; rw [hin])
        go_round
        case rel =>
          refine ⟨i + 1, by omega, by go_num, fun j hj y hy => ?_⟩
          by_cases hji : j < i
          · exact HN.out j hji y hy
          · obtain rfl : j = i := by omega
            rw [HX.out] at hy
            cases hy
            simpa using hin
        case measure => simp [intOf]; omega
    · obtain rfl : i = L.length := by omega
      go_wp2_with fail
      go_ret
      exact ⟨by rw [nrIdx_no HN.out]; rfl, rfl⟩
set_option maxHeartbeats 400000 in
theorem nr_containsFunc_spec (h : Own W (nrBlocks T b bl lim L ++ m) w) (ok : NrOk lim L) {p : Nat} {n : Int} (hp : w.cell? ⟨p, 0, none⟩ = some (.int .i64 n)) :
    Calls Try.prog 100 #[.slice (some ⟨bl, 0, none⟩) L.length L.length, .func (.func 101) #[] #[.pointer (some ⟨p, 0, none⟩)]] w fun e w' => e = .returned (.bool (nrHas L n)) ∧ w = w' := by
  have HM := Lib.hid (nrIdx_has L n)
  go_enter Try.func100, Try.ntmps100
  go_wp2_with (go_at_call 109; refine (nr_indexFunc_spec h ok hp).mono ?_; rintro e w' ⟨rfl, rfl⟩)
  go_ret
  exact ⟨by rw [← HM.out]; rfl, rfl⟩
set_option maxHeartbeats 400000 in
theorem has_spec (h : Own W (nrBlocks T b bl lim L ++ m) w) (ok : NrOk lim L) (n : Int) :
    Calls Try.prog 79 #[.pointer (some ⟨b, 0, none⟩), .int .i64 n] w fun e w' => e = .returned (.bool (nrHas L n)) ∧ Own W (nrBlocks T b bl lim L ++ m) w' := by
  have c0 := nrHead h
  have hlt := (nrLt h).1
  have hp : (w.alloc (.cells #[.int .i64 n] 3)).cell? ⟨w.heap.size, 0, none⟩ = some (.int .i64 n) := by simp
  go_enter Try.func79, Try.ntmps79
  go_wp2_with (go_at_call 100; refine (nr_containsFunc_spec (h.alloc _) ok hp).mono ?_; rintro e w' ⟨rfl, rfl⟩)
  go_ret
  exact ⟨rfl, h.alloc _⟩

/-- the last one is taken -/
def nrTake (L : List NL) (cpu : Int) : Int × Bool := match nrAt L cpu with | some x => (match x.xs.getLast? with | some p => (p, true) | none => (0, false)) | none => (0, false)

set_option maxHeartbeats 400000 in
theorem take_yes (h : Own W (nrBlocks T b bl lim L ++ m) w) (ok : NrOk lim L) (i : Nat) {x : NL} (hx : L[i]? = some x) {p : Int} {ys : List Int} (hp : x.xs = ys ++ [p]) :
    Calls Try.prog 83 #[.pointer (some ⟨b, 0, none⟩), .int .i64 i] w fun e w' => e = .returned (.tuple #[.int .i64 p, .bool true]) ∧ ∃ y, y.ok ∧ y.xs = ys ∧ Own W (nrBlocks T b bl lim (L.set i y) ++ m) w' := by
  have hi : i < L.length := (List.getElem?_eq_some_iff.1 hx).1
  have hlen : x.xs.length = ys.length + 1 := by rw [hp]; simp
  have hl64 := (ok.at_ hx).2
  have ho := nrOut h hx
  have hok : IntsOwn true x.v x.xs x.bs := (ok.at_ hx).1
  obtain ⟨g, cap, cur, hv, hb, hnc, hcm, hcs, htk⟩ := SlO.form hok (by omega)
  have cx := nrCell h hx
  have fx := nrFree h i
  have cl : w.cell? ⟨g, ys.length, none⟩ = some (.int .i64 p) := SlO.cell hok ho hv (ints_get (by rw [hp]; simp))
  have hsh := SlO.shorter hok hv (k := ys.length) (by omega)
  rw [Nat.mul_one, ints_take, hp, List.take_left] at hsh
  have hin := nrIn (y := ⟨.slice (some ⟨g, 0, none⟩) ys.length cap, ys, x.bs⟩) hx ho
  rw [hv, hlen] at cx
  have HS := Lib.hid hsh
  have HP := Lib.hid hp
  unfold maxLen at hcm
  clear hv hb hcs htk hsh hok hp hx
  go_enter Try.func83, Try.ntmps83
  go_wp2_with (go_at_call 98; refine (list_in h ok.1 i hi).mono ?_; rintro e w' ⟨rfl, rfl⟩)
  go_ret2
  exact ⟨rfl, ⟨.slice (some ⟨g, 0, none⟩) ys.length cap, ys, x.bs⟩, HS.out, rfl, hin⟩
set_option maxHeartbeats 400000 in
theorem take_empty (h : Own W (nrBlocks T b bl lim L ++ m) w) (ok : NrOk lim L) (i : Nat) {x : NL} (hx : L[i]? = some x) (hp : x.xs = []) :
    Calls Try.prog 83 #[.pointer (some ⟨b, 0, none⟩), .int .i64 i] w fun e w' => e = .returned (.tuple #[.int .i64 0, .bool false]) ∧ w = w' := by
  have hi : i < L.length := (List.getElem?_eq_some_iff.1 hx).1
  have hok : IntsOwn true x.v x.xs x.bs := (ok.at_ hx).1
  obtain ⟨A, cap, hv, hnc, hcm⟩ := SlO.slice hok
  have cx := nrCell h hx
  rw [hv, hp] at cx
  simp only [List.length_nil] at cx
  clear hv hok hx hp
  go_enter Try.func83, Try.ntmps83
  go_wp2_with (go_at_call 98; refine (list_in h ok.1 i hi).mono ?_; rintro e w' ⟨rfl, rfl⟩)
  go_ret2
  exact ⟨rfl, rfl⟩
set_option maxHeartbeats 400000 in
theorem take_out (h : Own W (nrBlocks T b bl lim L ++ m) w) (ok : NrOk lim L) (cpu : Int) (hc : cpu < 0 ∨ L.length ≤ cpu) :
    Calls Try.prog 83 #[.pointer (some ⟨b, 0, none⟩), .int .i64 cpu] w fun e w' => e = .returned (.tuple #[.int .i64 0, .bool false]) ∧ w = w' := by
  go_enter Try.func83, Try.ntmps83
  go_wp2_with (go_at_call 98; refine (list_out h ok.1 cpu hc).mono ?_; rintro e w' ⟨rfl, rfl⟩)
  go_ret2
  exact ⟨rfl, rfl⟩

set_option maxHeartbeats 400000 in
theorem drain_in (h : Own W (nrBlocks T b bl lim L ++ m) w) (ok : NrOk lim L) (i : Nat) {x : NL} (hx : L[i]? = some x) :
    Calls Try.prog 82 #[.pointer (some ⟨b, 0, none⟩), .int .i64 i] w fun e w' => e = .returned x.v ∧ Own W (x.bs ++ (nrBlocks T b bl lim (L.set i nlNil) ++ m)) w' := by
  have hi : i < L.length := (List.getElem?_eq_some_iff.1 hx).1
  have ho := nrOut h hx
  have cx := nrCell h hx
  have fx := nrFree h i
  have hlt := (nrLt h).2
  have hin : Own W (nrBlocks T b bl lim (L.set i nlNil) ++ (x.bs ++ m)) (w.setCell ⟨bl, i, none⟩ (.slice none 0 0)) := by
    refine nrIn (y := nlNil) hx ?_
    show Own W ([] ++ _) w
    exact ho.perm (perm_swap _ _ _)
  have hok : IntsOwn true x.v x.xs x.bs := (ok.at_ hx).1
  obtain ⟨A, cap, hv, hnc, hcm⟩ := SlO.slice hok
  rw [hv] at cx ⊢
  clear hv hok hx
  go_enter Try.func82, Try.ntmps82
  go_wp2_with (go_at_call 98; refine (list_in h ok.1 i hi).mono ?_; rintro e w' ⟨rfl, rfl⟩)
  go_ret
  exact ⟨rfl, hin.swap⟩
set_option maxHeartbeats 400000 in
theorem drain_out (h : Own W (nrBlocks T b bl lim L ++ m) w) (ok : NrOk lim L) (cpu : Int) (hc : cpu < 0 ∨ L.length ≤ cpu) :
    Calls Try.prog 82 #[.pointer (some ⟨b, 0, none⟩), .int .i64 cpu] w fun e w' => e = .returned (.slice none 0 0) ∧ w = w' := by
  go_enter Try.func82, Try.ntmps82
  go_wp2_with (go_at_call 98; refine (list_out h ok.1 cpu hc).mono ?_; rintro e w' ⟨rfl, rfl⟩)
  go_ret
  exact ⟨rfl, rfl⟩
set_option maxHeartbeats 400000 in
theorem list_yes (h : Own W (nrBlocks T b bl lim L ++ m) w) (ok : NrOk lim L) (i : Nat) {x : NL} (hx : L[i]? = some x) :
    Calls Try.prog 78 #[.pointer (some ⟨b, 0, none⟩), .int .i64 i] w fun e w' => ∃ v bs, e = .returned v ∧ IntsOwn true v x.xs bs ∧ Own W (bs ++ (nrBlocks T b bl lim L ++ m)) w' := by
  have hi : i < L.length := (List.getElem?_eq_some_iff.1 hx).1
  have ho := nrOut h hx
  have cx := nrCell h hx
  have hsrc : IntsSrc w x.v x.xs := SlO.src (ok.at_ hx).1 ho
  have hlx := (ok.at_ hx).2
  have hok : IntsOwn true x.v x.xs x.bs := (ok.at_ hx).1
  obtain ⟨A, cap, hv, hnc, hcm⟩ := SlO.slice hok
  rw [hv] at cx hsrc
  clear hv hok hx
  go_enter Try.func78, Try.ntmps78
  go_wp2_with (first | (go_at_call 98; refine (list_in h ok.1 i hi).mono ?_; rintro e w' ⟨rfl, rfl⟩) | (go_at_call 99; refine (clone_spec h hsrc (by omega)).mono ?_; rintro e w1 ⟨v', bs', rfl, h1, h2⟩))
  go_ret
  exact ⟨v', bs', rfl, h1, h2⟩
set_option maxHeartbeats 400000 in
theorem list_no (h : Own W (nrBlocks T b bl lim L ++ m) w) (ok : NrOk lim L) (cpu : Int) (hc : cpu < 0 ∨ L.length ≤ cpu) :
    Calls Try.prog 78 #[.pointer (some ⟨b, 0, none⟩), .int .i64 cpu] w fun e w' => e = .returned (.slice none 0 0) ∧ w = w' := by
  go_enter Try.func78, Try.ntmps78
  go_wp2_with (go_at_call 98; refine (list_out h ok.1 cpu hc).mono ?_; rintro e w' ⟨rfl, rfl⟩)
  go_ret
  exact ⟨rfl, rfl⟩
end
end Go.Proofs.Ytljcndcmdphmgaa

/-
  What the methods of near.Near do, on: Put, New.
-/
namespace Go.Proofs.Ytljcndcmdphmgaa
open Go.RowKit
section
variable {T : TypeId} {W : World} {m bs : List (Nat × Obj)} {w : World} {b bl : Nat} {lim : Int} {L : List NL}

theorem nrR_mem (bs m : List (Nat × Obj)) (i : Nat) : (b, .cells #[.slice (some ⟨bl, 0, none⟩) L.length L.length, .int .i64 lim] T) ∈ bs ++ (nrRest T b bl lim L i ++ m) ∧ (bl, .cells (L.map (·.v)).toArray 38) ∈ bs ++ (nrRest T b bl lim L i ++ m) :=
  ⟨List.mem_append_right _ (List.mem_append_left _ List.mem_cons_self), List.mem_append_right _ (List.mem_append_left _ (List.mem_cons_of_mem _ List.mem_cons_self))⟩

theorem nrIn2 {i : Nat} {x : NL} (hx : L[i]? = some x) {y : NL} (h : Own W (y.bs ++ (bs ++ (nrRest T b bl lim L i ++ m))) w) :
    Own W (bs ++ (nrBlocks T b bl lim (L.set i y) ++ m)) (w.setCell ⟨bl, i, none⟩ y.v) :=
  (nrIn hx (m := bs ++ m) (h.perm (List.Perm.append_left _ (perm_swap _ _ _)))).swap
theorem nrR_cell {i : Nat} {x : NL} (hx : L[i]? = some x) (h : Own W (bs ++ (nrRest T b bl lim L i ++ m)) w) : w.cell? ⟨bl, i, none⟩ = some x.v := by
  rw [h.cell (nrR_mem bs m i).2]; simp [hx]
theorem nrR_free {i : Nat} (j : Nat) (h : Own W (bs ++ (nrRest T b bl lim L i ++ m)) w) : w.frozen? ⟨bl, j, none⟩ = false := h.frozen (nrR_mem bs m i).2 j
theorem src_none (w : World) (g : Nat) : IntsSrc w (.slice (some ⟨g, 0, none⟩) 0 0) [] := ⟨rfl, .inr ⟨_, _, rfl, fun j u hj => by simp [ints] at hj⟩⟩
/-- how many go, and what stays -/
def nrK (lim : Int) (n : Nat) : Nat := if lim < n then (n + 1) / 2 else 0
theorem nrK_le (lim : Int) (n : Nat) : nrK lim n ≤ (n + 1) / 2 := by unfold nrK; split <;> omega

/-- what a Put that takes a page does -/
def NrPut (W : World) (m : List (Nat × Obj)) (T : TypeId) (b bl : Nat) (lim : Int) (L : List NL) (i : Nat) (xs : List Int) (p : Int) (e : Ending) (w' : World) : Prop :=
  ∃ vr bsr y, e = .returned (.tuple #[vr, .int .i64 0]) ∧ IntsOwn false vr ((xs ++ [p]).take (nrK lim (xs.length + 1))) bsr ∧ NL.ok y ∧ y.xs = (xs ++ [p]).drop (nrK lim (xs.length + 1)) ∧ Own W (bsr ++ (nrBlocks T b bl lim (L.set i y) ++ m)) w'

theorem src_drop {ex : Bool} {v : Value} {l : List Int} {g cap k : Nat} (hs : IntsOwn ex v l bs) (hO : Own W (bs ++ m) w) (hv : v = .slice (some ⟨g, 0, none⟩) l.length cap) (_hk : k ≤ l.length) :
    IntsSrc w (.slice (some ⟨g, k, none⟩) (l.length - k) (cap - k)) (l.drop k) := by
  have hl : (l.drop k).length = l.length - k := List.length_drop
  unfold IntsSrc Src
  rw [hl]
  refine ⟨by rw [ints_len, hl]; omega, .inr ⟨_, _, rfl, fun j u hj => ?_⟩⟩
  rw [add_lit]
  refine SlO.cell hs hO hv ?_
  rw [← ints_drop, List.getElem?_drop] at hj
  exact hj

set_option maxRecDepth 100000 in
set_option maxHeartbeats 1000000 in
theorem put_yes (h : Own W (nrBlocks T b bl lim L ++ m) w) (ok : NrOk lim L) (i : Nat) {x : NL} (hx : L[i]? = some x) (p : Int) (h0 : 0 ≤ p) (h1 : p < 1024) (hhas : nrHas L p = false) :
    Calls Try.prog 80 #[.pointer (some ⟨b, 0, none⟩), .int .i64 i, .int .i64 p] w (NrPut W m T b bl lim L i x.xs p) := by
  have hi : i < L.length := (List.getElem?_eq_some_iff.1 hx).1
  have hL0 : (((L.length : Nat) : Int) == 0) = false := by rw [beq_eq_false_iff_ne]; omega
  have hl8 := ok.1
  have hl64 := (ok.at_ hx).2
  have hlim := ok.2.2.1
  have hlim0 := ok.2.1
  have c0 := nrHead h
  go_enter Try.func80, Try.ntmps80
  go_wp2_with (first | (go_at_call 98; refine (list_in h ok.1 i hi).mono ?_; rintro e w' ⟨rfl, rfl⟩) | fail)
  refine (has_spec h ok p).mono ?_
  rintro e w1 ⟨rfl, h2⟩
  rw [hhas]
  have ho := nrOut h2 hx
  have cx := nrCell h2 hx
  have hok : IntsOwn true x.v x.xs x.bs := (ok.at_ hx).1
  have hp1 : IntsSrc (w1.alloc (.cells #[.int .i64 p] 3)) (.slice (some ⟨w1.heap.size, 0, none⟩) 1 1) [p] := by
    refine ⟨rfl, .inr ⟨_, _, rfl, fun j u hj => ?_⟩⟩
    rw [add_lit0]
    match j, hj with
    | 0, hj => simp [ints] at hj; subst hj; simp
    | j + 1, hj => simp [ints] at hj
  have hX := Lib.hid hx
  obtain ⟨A, cap, hv, hnc, hcm⟩ := SlO.slice hok
  rw [hv] at cx hok
  unfold maxLen at hcm
  clear hx c0 hv
  have hlen1 : x.xs.length + [p].length ≤ 60000 := by simp; omega
  generalize hK : nrK lim (x.xs.length + 1) = K
  have hKle : K ≤ x.xs.length + 1 := by have := nrK_le lim (x.xs.length + 1); omega
  by_cases hgt : lim < (x.xs.length : Int) + 1
  · have hKi : ((x.xs.length : Int) + 1 + 1) / 2 = (K : Nat) := by rw [← hK, nrK, if_pos (by omega)]; omega
    have HKI := Lib.hid hKi
    have HK := Lib.hid hK
    clear hKi hK
    go_upto_region 12 with (at_builtin; refine wpList_app_ints (by rfl) _ _ (by rfl) (by rfl) (by rfl) hok (ho.alloc _) hp1 hlen1 ?_; intro v' w2 bs' h3 h4 h5; obtain ⟨g, c2, cur, rfl, _, hn2, hc2, _, _⟩ := SlO.form h3 (by simp); clear h5; have cL : w2.cell? ⟨b, 1, none⟩ = some (.int .i64 lim) := (by rw [h4.cell (nrR_mem bs' m i).1]; rfl); have H3 := Lib.hid h3; clear h3; simp only [List.length_append, List.length_cons, List.length_nil, Nat.zero_add] at hn2)
    rw [HKI.out]
    by_cases hck : c2 = K
    · have hn0 : x.xs.length + 1 = K := by have := HK.out; unfold nrK at this; split at this <;> omega
      have hd : (x.xs ++ [p]).drop K = [] := List.drop_of_length_le (by simp; omega)
      have HD := Lib.hid hd
      clear hd
      go_wp2_with (go_at_call 99; refine (clone_spec h4 (src_none w2 g) (by simp)).mono ?_; rintro e w3 ⟨v3, bs3, rfl, h6, h7⟩; have cx3 := nrR_cell hX.out h7.dropL; have fx3 := nrR_free i h7.dropL; obtain ⟨A3, c3, hv3, hl3, hm3⟩ := SlO.slice h6; subst hv3; have H6 := Lib.hid h6; clear h6)
      go_ret2
      refine ⟨.slice (some ⟨g, 0, none⟩) K K, bs', ⟨_, (x.xs ++ [p]).drop K, bs3⟩, rfl, ?_, ?_, by rw [HK.out], nrIn2 hX.out (y := ⟨_, (x.xs ++ [p]).drop K, bs3⟩) h7⟩
      · have := SlO.cut H3.out rfl (k := K) (by simp; omega)
        rw [Nat.mul_one, ints_take] at this
        have hlk : ((x.xs ++ [p]).take K).length = K := by simp; omega
        rw [HK.out]
        unfold IntsOwn
        rw [hlk]
        exact this
      · rw [HD.out]; exact H6.out
    · have hsd := src_drop H3.out h4 rfl (k := K) (by simp; omega)
      have hlk : ((x.xs ++ [p]).drop K).length ≤ 60000 := by simp; omega
      rw [show (x.xs ++ [p]).length - K = x.xs.length + 1 - K from by simp] at hsd
      go_wp2_with (go_at_call 99; refine (clone_spec h4 hsd hlk).mono ?_; rintro e w3 ⟨v3, bs3, rfl, h6, h7⟩; have cx3 := nrR_cell hX.out h7.dropL; have fx3 := nrR_free i h7.dropL; obtain ⟨A3, c3, hv3, hl3, hm3⟩ := SlO.slice h6; subst hv3; have H6 := Lib.hid h6; clear h6)
      go_ret2
      refine ⟨.slice (some ⟨g, 0, none⟩) K K, bs', ⟨_, (x.xs ++ [p]).drop K, bs3⟩, rfl, ?_, ?_, by rw [HK.out], nrIn2 hX.out (y := ⟨_, (x.xs ++ [p]).drop K, bs3⟩) h7⟩
      · have := SlO.cut H3.out rfl (k := K) (by simp; omega)
        rw [Nat.mul_one, ints_take] at this
        have hlk : ((x.xs ++ [p]).take K).length = K := by simp; omega
        rw [HK.out]
        unfold IntsOwn
        rw [hlk]
        exact this
      · have e1 : x.xs.length + 1 - K = ((x.xs ++ [p]).drop K).length := by simp
        show IntsOwn true (.slice A3 (x.xs.length + 1 - K) c3) _ bs3
        rw [e1]; exact H6.out
  · have hKi : K = 0 := by rw [← hK, nrK, if_neg (by omega)]
    subst hKi
    have HK := Lib.hid hK
    clear hK
    go_upto_region 12 with (at_builtin; refine wpList_app_ints (by rfl) _ _ (by rfl) (by rfl) (by rfl) hok (ho.alloc _) hp1 hlen1 ?_; intro v' w2 bs' h3 h4 h5; obtain ⟨g, c2, cur, rfl, _, hn2, hc2, _, _⟩ := SlO.form h3 (by simp); clear h5; have cL : w2.cell? ⟨b, 1, none⟩ = some (.int .i64 lim) := (by rw [h4.cell (nrR_mem bs' m i).1]; rfl); have H3 := Lib.hid h3; clear h3; simp only [List.length_append, List.length_cons, List.length_nil, Nat.zero_add] at hn2)
    have hsd := src_drop H3.out h4 rfl (k := 0) (by simp)
    have hlk : ((x.xs ++ [p]).drop 0).length ≤ 60000 := by simp; omega
    rw [show (x.xs ++ [p]).length - 0 = x.xs.length + 1 from by simp, Nat.sub_zero] at hsd
    go_wp2_with (go_at_call 99; refine (clone_spec h4 hsd hlk).mono ?_; rintro e w3 ⟨v3, bs3, rfl, h6, h7⟩; have cx3 := nrR_cell hX.out h7.dropL; have fx3 := nrR_free i h7.dropL; obtain ⟨A3, c3, hv3, hl3, hm3⟩ := SlO.slice h6; subst hv3; have H6 := Lib.hid h6; clear h6)
    go_ret2
    refine ⟨.slice (some ⟨g, 0, none⟩) 0 0, bs', ⟨_, (x.xs ++ [p]).drop 0, bs3⟩, rfl, ?_, ?_, by rw [HK.out], nrIn2 hX.out (y := ⟨_, (x.xs ++ [p]).drop 0, bs3⟩) h7⟩
    · have := SlO.cut H3.out rfl (k := 0) (by simp)
      rw [Nat.mul_one, ints_take] at this
      have hlk : ((x.xs ++ [p]).take 0).length = 0 := by simp
      rw [HK.out]
      unfold IntsOwn
      rw [hlk]
      exact this
    · have e1 : x.xs.length + 1 = ((x.xs ++ [p]).drop 0).length := by simp
      show IntsOwn true (.slice A3 (x.xs.length + 1) c3) _ bs3
      rw [e1]; exact H6.out

set_option maxHeartbeats 1000000 in
theorem put_range (h : Own W (nrBlocks T b bl lim L ++ m) w) (ok : NrOk lim L) (hl1 : 1 ≤ L.length) (cpu p : Int) (hb : cpu < 0 ∨ L.length ≤ cpu ∨ p < 0 ∨ 1024 ≤ p) :
    Calls Try.prog 80 #[.pointer (some ⟨b, 0, none⟩), .int .i64 cpu, .int .i64 p] w fun e w' => e = .returned (.tuple #[.slice none 0 0, .int .i64 9]) ∧ w = w' := by
  have hL0 : (((L.length : Nat) : Int) == 0) = false := by rw [beq_eq_false_iff_ne]; omega
  have c0 := nrHead h
  by_cases hc : cpu < 0 ∨ L.length ≤ cpu
  · go_enter Try.func80, Try.ntmps80
    go_wp2_with (first | (go_at_call 98; refine (list_out h ok.1 cpu hc).mono ?_; rintro e w' ⟨rfl, rfl⟩) | fail)
    go_ret2
    exact ⟨rfl, rfl⟩
  · obtain ⟨i, rfl⟩ := Int.eq_ofNat_of_zero_le (show 0 ≤ cpu by omega)
    have hp : p < 0 ∨ 1024 ≤ p := by omega
    have hi : i < L.length := by omega
    clear hc hb
    go_enter Try.func80, Try.ntmps80
    go_wp2_with (first | (go_at_call 98; refine (list_in h ok.1 i hi).mono ?_; rintro e w' ⟨rfl, rfl⟩) | fail)
    all_goals first
      | (go_ret2; exact ⟨rfl, rfl⟩)
      | (exfalso; omega)
set_option maxHeartbeats 1000000 in
theorem put_block (h : Own W (nrBlocks T b bl lim L ++ m) w) (ok : NrOk lim L) (i : Nat) (hi : i < L.length) (p : Int) (h0 : 0 ≤ p) (h1 : p < 1024) (hhas : nrHas L p = true) :
    Calls Try.prog 80 #[.pointer (some ⟨b, 0, none⟩), .int .i64 i, .int .i64 p] w fun e w' => e = .returned (.tuple #[.slice none 0 0, .int .i64 60]) ∧ Own W (nrBlocks T b bl lim L ++ m) w' := by
  have hL0 : (((L.length : Nat) : Int) == 0) = false := by rw [beq_eq_false_iff_ne]; omega
  have c0 := nrHead h
  go_enter Try.func80, Try.ntmps80
  go_wp2_with (first | (go_at_call 98; refine (list_in h ok.1 i hi).mono ?_; rintro e w' ⟨rfl, rfl⟩) | (go_at_call 79; refine (has_spec h ok p).mono ?_; rintro e w1 ⟨rfl, h2⟩; rw [hhas]))
  go_ret2
  exact ⟨rfl, h2⟩
end
/-- so many lists that are none -/
theorem nil_cells (n : Nat) : ((List.replicate n nlNil).map (·.v)).toArray = Array.replicate n (Value.slice none 0 0) := by
  apply Array.ext'
  simp [nlNil]
theorem sl_info : (Try.prog.info? 38).map (fun i => (i.zero, i.size, i.bytes)) = some (some (.slice none 0 0), 1, 24) := by kernel_rfl
set_option maxRecDepth 10000 in
set_option maxHeartbeats 400000 in
theorem nrNew_ok {W : World} {m : List (Nat × Obj)} {w : World} (h : Own W m w) (k lim : Int) (h1 : 1 ≤ k) (h8 : k ≤ 8) (hl0 : 0 ≤ lim) (hl : lim ≤ 64) :
    Calls Try.prog 67 #[.int .i64 k, .int .i64 lim] w fun e w' => ∃ b bl, e = .returned (.tuple #[.pointer (some ⟨b, 0, none⟩), .int .i64 0]) ∧ Own W (nrBlocks 132 b bl lim (List.replicate k.toNat nlNil) ++ m) w' := by
  obtain ⟨n, rfl⟩ := Int.eq_ofNat_of_zero_le (show 0 ≤ k from by omega)
  rw [Int.toNat_natCast]
  obtain ⟨i, hi, hz, hs, hb⟩ := info_get sl_info
  have hmk := fun W => run_make_rowN (P := Try.prog) 130 38 i _ Try.underlying130 hi hz .i64 .i64 n n (Nat.le_refl _) (by rw [hb]; omega) (by omega) W
  rw [hs, madeCells_const _ (.slice none 0 0) _ (by simp [Value.cells]) (by intro j hj; obtain rfl : j = 0 := (by simp [Value.cells] at hj; omega); rfl), Nat.mul_one, ← nil_cells] at hmk
  obtain ⟨cs, hcs⟩ : ∃ cs, cs = ((List.replicate n nlNil).map (·.v)).toArray := ⟨_, rfl⟩
  rw [← hcs] at hmk
  have HC := Lib.hid hcs
  clear hcs
  clear hi hz hs hb
  go_enter Try.func67, Try.ntmps67
  go_wp2_with fail
  go_ret2
  refine ⟨w.heap.size + 1, w.heap.size, rfl, ?_⟩
  have h2 := (h.new (.cells cs 38)).new (.cells #[.slice (some ⟨w.heap.size, 0, none⟩) n n, .int .i64 lim] 132)
  have hfm : (List.replicate n nlNil).flatMap (·.bs) = [] := by rw [List.flatMap_eq_nil_iff]; intro x hx; rw [List.eq_of_mem_replicate hx]; rfl
  unfold nrBlocks
  rw [hfm, List.length_replicate, ← HC.out]
  simpa using h2
set_option maxHeartbeats 400000 in
theorem nrNew_bad (k lim : Int) (hn : k < 1 ∨ 8 < k ∨ lim < 0 ∨ 64 < lim) (w : World) :
    Calls Try.prog 67 #[.int .i64 k, .int .i64 lim] w fun e w' => e = .returned (.tuple #[.pointer none, .int .i64 2]) ∧ w = w' := by
  go_enter Try.func67, Try.ntmps67
  go_wp2
  all_goals first
    | (go_ret2; exact ⟨rfl, rfl⟩)
    | (exfalso; omega)
end Go.Proofs.Ytljcndcmdphmgaa
