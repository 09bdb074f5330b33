import Derived.Test.YtcbljokbechppaaBkBackP
/-
  Tasks that give objects back to a frozen slab, step by step: plain. No condition.
-/
namespace Go.Proofs.Ytcbljokbechppaa.Ball
open See Fast Back
/-- a task: where it is, whether it is done, what it read -/
structure Tk where
  pc : Nat := 50
  en : Nat := 0
  f : Nat := 0
  kw : Nat := 0
/-- Inuse, as a word says -/
def inuse (w : Nat) : Nat := w % 256
section
variable (k key : Nat)
abbrev key1 : Nat := See.keyOf key 1
/-- a step of a task with that object -/
def stepB (g : List Nat) (o : Nat) (t : Tk) : Tk × List Nat :=
  if t.en = 0 then
    if t.pc = 50 then ({ t with pc := 51, f := at_ g 12 }, g)
    else if t.pc = 51 then ({ t with pc := 52, kw := at_ g 13 }, g)
    else if t.pc = 52 then ({ t with pc := 53 }, g.set (16 + k + o) (hideW ((t.f : Int) - 1) (key1 key) o))
    else if at_ g 12 = t.f ∧ at_ g 13 = t.kw then ({ t with en := 1 }, (g.set 12 (o + 1)).set 13 (packN (inuse t.kw - 1) k true true))
    else ({ t with pc := 50 }, g)
  else (t, g)
/-- how many steps of its own, at most, until it is done, if nobody else is before -/
def fresh (g : List Nat) (t : Tk) : Prop := (t.pc = 50) ∨ (t.pc = 51 ∧ t.f = at_ g 12) ∨ (at_ g 12 = t.f ∧ at_ g 13 = t.kw)
instance (g : List Nat) (t : Tk) : Decidable (fresh g t) := by unfold fresh; exact inferInstance
def dist (g : List Nat) (t : Tk) : Nat := 54 - t.pc + (if fresh g t then 0 else 4)
/-- what is known of a task that is not done -/
structure Live (g : List Nat) (o : Nat) (t : Tk) : Prop where
  pc : 50 ≤ t.pc ∧ t.pc ≤ 53
  f : 51 ≤ t.pc → t.f ≤ k
  kw : 52 ≤ t.pc → ∃ c, 1 ≤ c ∧ c ≤ k ∧ t.kw = packN c k true true
  lk : t.pc = 53 → showOf (at_ g (16 + k + o)) (key1 key) o = some ((t.f : Int) - 1)
/-- the object of a task -/
def objOf (j : Nat) : Nat := k - 1 - j
/-- words of a frozen slab -/
structure SlabF (g : List Nat) (L : List Int) : Prop where
  len : g.length = 16 + 2 * k
  w64 : W64 g
  z : ∀ i, i < 16 → i ≠ 12 → i ≠ 13 → at_ g i = 0
  f1 : ((at_ g 12 : Nat) : Int) = fst L + 1
  cnt : at_ g 13 = packN (k - L.length) k true true
  nd : L.Nodup
  bd : ∀ x ∈ L, 0 ≤ x ∧ x < (k : Int)
  lk1 : LkB g (16 + k) (key1 key) L
structure Inv (n : Nat) (g : List Nat) (ts : List Tk) (L : List Int) : Prop where
  len : ts.length = n
  slab : SlabF k key g L
  mem : ∀ x : Int, x ∈ L ↔ ∃ j t, ts[j]? = some t ∧ t.en = 1 ∧ x = (objOf k j : Int)
  en : ∀ (j : Nat) t, ts[j]? = some t → t.en = 0 ∨ t.en = 1
  live : ∀ (j : Nat) t, ts[j]? = some t → t.en = 0 → Live k key g (objOf k j) t
end
section
variable {k key n : Nat} {g : List Nat} {ts : List Tk} {L : List Int}
theorem inuse_pack {c : Nat} (h1 : c ≤ 16) (h2 : k ≤ 16) : inuse (packN c k true true) = c := by
  unfold inuse packN
  simp only [if_true]
  omega
theorem pack_inj {c d : Nat} (h : packN c k true true = packN d k true true) : c = d := by
  unfold packN at h
  omega
/-- what such words say -/
theorem SlabF.see (h : SlabF k key g L) (h1 : 1 ≤ k) (hk : k ≤ 16) : seeP (c2 k key) g = some ⟨[⟨-1, [], 0, []⟩], [], false, [⟨⟨0, 0, false, false⟩, []⟩, ⟨⟨k - L.length, k, true, true⟩, L⟩]⟩ := by
  have hz := fun i hi h12 h13 => h.z i hi h12 h13
  have hs : Slabbed k key g L ⟨k - L.length, k, true, true⟩ [] [] false := by
    refine ⟨h.len, h.w64, hz 0 (by omega) (by omega) (by omega), ?_, ?_, ?_, hz 8 (by omega) (by omega) (by omega), hz 9 (by omega) (by omega) (by omega), h.f1, ?_, h.nd, h.bd, h.lk1⟩
    · rw [hz 2 (by omega) (by omega) (by omega)]
      show chain _ _ 2 3 [] 0 = _
      unfold chain
      simp [partOf]
    · show chain shelfOf _ 2 3 [] (at_ g 5) = _
      rw [hz 5 (by omega) (by omega) (by omega)]
      unfold chain
      simp [shelfOf]
    · rw [hz 4 (by omega) (by omega) (by omega)]
      rfl
    · rw [h.cnt]
      exact countsOf_pack (by omega) (by omega) hk
  have := hs.see h1
  rw [hz 1 (by omega) (by omega) (by omega)] at this
  exact this
/-- a task that is not done: its object is not in the list -/
theorem Inv.notIn (h : Inv k key n g ts L) (hn : n ≤ k) {j : Nat} {t : Tk} (hj : ts[j]? = some t) (ht : t.en = 0) : (objOf k j : Int) ∉ L := fun hm => by
  obtain ⟨j', t', h1, h2, h3⟩ := (h.mem _).1 hm
  have l1 := (List.getElem?_eq_some_iff.1 hj).1
  have l2 := (List.getElem?_eq_some_iff.1 h1).1
  have hl := h.len
  have : j = j' := by unfold objOf at h3; omega
  subst this
  rw [hj] at h1
  cases h1
  omega
/-- .. so there are fewer in the list than tasks -/
theorem Inv.lt (h : Inv k key n g ts L) (hn : n ≤ k) {j : Nat} {t : Tk} (hj : ts[j]? = some t) (ht : t.en = 0) : L.length < n := by
  have l1 := (List.getElem?_eq_some_iff.1 hj).1
  have hl := h.len
  have hM : ∀ x ∈ L.map (fun x => (k : Int) - 1 - x), 0 ≤ x ∧ x < (n : Int) := by
    intro x hx
    obtain ⟨y, hy, rfl⟩ := List.mem_map.1 hx
    obtain ⟨j', t', h1, h2, rfl⟩ := (h.mem _).1 hy
    have l2 := (List.getElem?_eq_some_iff.1 h1).1
    unfold objOf
    omega
  have hnd : (L.map (fun x => (k : Int) - 1 - x)).Nodup := by
    refine List.Pairwise.map _ (fun a b hab => ?_) h.slab.nd
    omega
  have hni : (j : Int) ∉ L.map (fun x => (k : Int) - 1 - x) := fun hm => by
    obtain ⟨y, hy, hyj⟩ := List.mem_map.1 hm
    have : y = (objOf k j : Int) := by unfold objOf; omega
    exact h.notIn hn hj ht (this ▸ hy)
  have := few_lt hnd hM (i := (j : Int)) (by omega) (by omega) hni
  rwa [List.length_map] at this
theorem set_at {t t' : Tk} {j i : Nat} (hj : j < ts.length) : (ts.set j t')[i]? = some t → (i = j ∧ t = t') ∨ (i ≠ j ∧ ts[i]? = some t) := by
  intro h
  rw [List.getElem?_set] at h
  by_cases hij : j = i
  · subst hij
    rw [if_pos rfl, if_pos hj] at h
    cases h
    exact .inl ⟨rfl, rfl⟩
  · rw [if_neg hij] at h
    exact .inr ⟨fun h => hij h.symm, h⟩
/-- a step that changes a task alone -/
theorem Inv.task (h : Inv k key n g ts L) {j : Nat} {t t' : Tk} (hj : ts[j]? = some t) (h0 : t.en = 0) (h0' : t'.en = 0) (hl : Live k key g (objOf k j) t') : Inv k key n g (ts.set j t') L := by
  have hjl := (List.getElem?_eq_some_iff.1 hj).1
  refine ⟨by rw [List.length_set]; exact h.len, h.slab, fun x => ?_, fun i u hu => ?_, fun i u hu hu0 => ?_⟩
  · rw [h.mem]
    constructor
    · rintro ⟨i, u, h1, h2, h3⟩
      refine ⟨i, u, ?_, h2, h3⟩
      rw [List.getElem?_set, if_neg (fun hij => ?_), h1]
      subst hij
      rw [hj] at h1
      cases h1
      omega
    · rintro ⟨i, u, h1, h2, h3⟩
      rcases set_at hjl h1 with ⟨rfl, rfl⟩ | ⟨_, h4⟩
      · omega
      · exact ⟨i, u, h4, h2, h3⟩
  · rcases set_at hjl hu with ⟨rfl, rfl⟩ | ⟨_, h4⟩
    · exact .inl h0'
    · exact h.en i u h4
  · rcases set_at hjl hu with ⟨rfl, rfl⟩ | ⟨_, h4⟩
    · exact hl
    · exact h.live i u h4 hu0
/-- the object's link is tied -/
theorem SlabF.tie (h : SlabF k key g L) {o w : Nat} (ho : (o : Int) ∉ L) (hw : w < 18446744073709551616) : SlabF k key (g.set (16 + k + o) w) L := by
  refine ⟨by rw [List.length_set]; exact h.len, w64_set h.w64 hw, fun i hi h12 h13 => ?_, ?_, ?_, h.nd, h.bd, h.lk1.far fun x hx => ?_⟩
  · rw [at_set_ne (by omega)]
    exact h.z i hi h12 h13
  · rw [at_set_ne (by omega)]
    exact h.f1
  · rw [at_set_ne (by omega)]
    exact h.cnt
  · refine at_set_ne fun he => ho ?_
    have := (h.bd x hx).1
    have : (o : Int) = x := by omega
    rw [this]
    exact hx
/-- .. and it is the first one -/
theorem SlabF.give (h : SlabF k key g L) {o : Nat} (ho : (o : Int) ∉ L) (ho2 : o < k) (hk : k ≤ 16) (hlt : L.length < k) (hlk : showOf (at_ g (16 + k + o)) (key1 key) o = some ((at_ g 12 : Int) - 1)) :
    SlabF k key ((g.set 12 (o + 1)).set 13 (packN (k - L.length - 1) k true true)) ((o : Int) :: L) := by
  have hlen := h.len
  have hg : ∀ i, i ≠ 12 → i ≠ 13 → at_ ((g.set 12 (o + 1)).set 13 (packN (k - L.length - 1) k true true)) i = at_ g i := fun i h12 h13 => by
    rw [at_set_ne (fun h => h13 h.symm), at_set_ne (fun h => h12 h.symm)]
  refine ⟨by rw [List.length_set, List.length_set]; exact hlen, w64_set (w64_set h.w64 (by omega)) (packN_lt (by omega) (by omega)), fun i hi h12 h13 => ?_, ?_, ?_, List.nodup_cons.2 ⟨ho, h.nd⟩, fun x hx => ?_, ?_, h.lk1.far fun x hx => ?_⟩
  · rw [hg i h12 h13]
    exact h.z i hi h12 h13
  · rw [at_set_ne (by omega), at_set_self (by omega)]
    show ((o + 1 : Nat) : Int) = (o : Int) + 1
    omega
  · rw [at_set_self (by rw [List.length_set]; omega), List.length_cons, Nat.sub_sub]
  · rcases List.mem_cons.1 hx with rfl | hx
    · omega
    · exact h.bd x hx
  · rw [Int.toNat_natCast, hg _ (by omega) (by omega), hlk, h.f1]
    congr 1
    omega
  · have := (h.bd x hx).1
    exact hg _ (by omega) (by omega)
/-- A STEP OF A TASK -/
theorem Inv.step (h : Inv k key n g ts L) (hn : n ≤ k) (hk : k ≤ 16) {j : Nat} {t : Tk} (hj : ts[j]? = some t) :
    ∃ L', Inv k key n (stepB k key g (objOf k j) t).2 (ts.set j (stepB k key g (objOf k j) t).1) L' ∧
      ((t.en = 1 ∧ (stepB k key g (objOf k j) t) = (t, g) ∧ L' = L) ∨
       (t.en = 0 ∧ (stepB k key g (objOf k j) t).1.en = 0 ∧ L' = L ∧ dist (stepB k key g (objOf k j) t).2 (stepB k key g (objOf k j) t).1 + 1 = dist g t ∧ ∀ u : Tk, dist (stepB k key g (objOf k j) t).2 u = dist g u) ∨
       (t.en = 0 ∧ (stepB k key g (objOf k j) t).1.en = 1 ∧ L'.length = L.length + 1 ∧ ∀ u : Tk, dist (stepB k key g (objOf k j) t).2 u ≤ dist g u + 4)) := by
  have hjl := (List.getElem?_eq_some_iff.1 hj).1
  have hlen := h.len
  rcases h.en j t hj with h0 | h1
  · have hL := h.live j t hj h0
    have hni := h.notIn hn hj h0
    have hlt := h.lt hn hj h0
    have hf1 := h.slab.f1
    have hfst := fst_in h.slab.bd
    have hpc := hL.pc
    have ho : objOf k j < k := by unfold objOf; omega
    unfold stepB
    rw [if_pos h0]
    by_cases p50 : t.pc = 50
    · rw [if_pos p50]
      refine ⟨L, h.task hj h0 h0 ⟨by show 50 ≤ 51 ∧ 51 ≤ 53; omega, fun _ => by show at_ g 12 ≤ k; omega, fun hp => absurd hp (by show ¬ 52 ≤ 51; omega), fun hp => absurd hp (by show ¬ 51 = 53; omega)⟩, .inr (.inl ⟨h0, h0, rfl, ?_, fun u => rfl⟩)⟩
      unfold dist
      rw [if_pos (show fresh g t from .inl p50), if_pos (show fresh g { t with pc := 51, f := at_ g 12 } from .inr (.inl ⟨rfl, rfl⟩))]
      show 54 - 51 + 0 + 1 = 54 - t.pc + 0
      omega
    · rw [if_neg p50]
      by_cases p51 : t.pc = 51
      · rw [if_pos p51]
        refine ⟨L, h.task hj h0 h0 ⟨by show 50 ≤ 52 ∧ 52 ≤ 53; omega, fun _ => hL.f (by omega), fun _ => ⟨k - L.length, by omega, by omega, h.slab.cnt⟩, fun hp => absurd hp (by show ¬ 52 = 53; omega)⟩, .inr (.inl ⟨h0, h0, rfl, ?_, fun u => rfl⟩)⟩
        have hiff : fresh g { t with pc := 52, kw := at_ g 13 } ↔ fresh g t := by
          unfold fresh
          simp only
          constructor
          · rintro (h | ⟨h, -⟩ | ⟨h, -⟩)
            · omega
            · omega
            · exact .inr (.inl ⟨p51, h.symm⟩)
          · rintro (h | ⟨-, h⟩ | ⟨h, -⟩)
            · omega
            · exact .inr (.inr ⟨h.symm, trivial⟩)
            · exact .inr (.inr ⟨h, trivial⟩)
        unfold dist
        by_cases hf : fresh g t
        · rw [if_pos hf, if_pos (hiff.2 hf)]
          show 54 - 52 + 0 + 1 = 54 - t.pc + 0
          omega
        · rw [if_neg hf, if_neg (fun h => hf (hiff.1 h))]
          show 54 - 52 + 4 + 1 = 54 - t.pc + 4
          omega
      · rw [if_neg p51]
        by_cases p52 : t.pc = 52
        · rw [if_pos p52]
          have hfk := hL.f (by omega)
          have hS := h.slab.tie (w := hideW ((t.f : Int) - 1) (key1 key) (objOf k j)) hni (hide_lt (by omega))
          have hg12 : ∀ i, i < 16 → at_ (g.set (16 + k + objOf k j) (hideW ((t.f : Int) - 1) (key1 key) (objOf k j))) i = at_ g i := fun i hi => at_set_ne (by omega)
          have hfr : ∀ u : Tk, fresh (g.set (16 + k + objOf k j) (hideW ((t.f : Int) - 1) (key1 key) (objOf k j))) u ↔ fresh g u := fun u => by
            unfold fresh
            rw [hg12 12 (by omega), hg12 13 (by omega)]
          have hds : ∀ u : Tk, dist (g.set (16 + k + objOf k j) (hideW ((t.f : Int) - 1) (key1 key) (objOf k j))) u = dist g u := fun u => by
            unfold dist
            by_cases hf : fresh g u
            · rw [if_pos hf, if_pos ((hfr u).2 hf)]
            · rw [if_neg hf, if_neg (fun h => hf ((hfr u).1 h))]
          have hI : Inv k key n (g.set (16 + k + objOf k j) (hideW ((t.f : Int) - 1) (key1 key) (objOf k j))) ts L := by
            refine ⟨hlen, hS, h.mem, h.en, fun i u hu hu0 => ?_⟩
            have hu' := h.live i u hu hu0
            refine ⟨hu'.pc, hu'.f, hu'.kw, fun hp => ?_⟩
            by_cases hij : i = j
            · subst hij
              rw [hj] at hu
              cases hu
              omega
            · have hil := (List.getElem?_eq_some_iff.1 hu).1
              rw [at_set_ne (by unfold objOf; omega)]
              exact hu'.lk hp
          refine ⟨L, hI.task (t := t) hj h0 h0 ⟨by show 50 ≤ 53 ∧ 53 ≤ 53; omega, fun _ => hfk, fun _ => hL.kw (by omega), fun _ => ?_⟩, .inr (.inl ⟨h0, h0, rfl, ?_, hds⟩)⟩
          · show showOf (at_ (g.set _ _) _) _ _ = _
            rw [at_set_self (by rw [h.slab.len]; omega)]
            exact show_hide (by omega) (by omega)
          · simp only
            rw [hds]
            unfold dist
            have hiff : fresh g { t with pc := 53 } ↔ fresh g t := by
              unfold fresh
              simp only
              constructor
              · rintro (h | ⟨h, -⟩ | h)
                · omega
                · omega
                · exact .inr (.inr h)
              · rintro (h | ⟨h, -⟩ | h)
                · omega
                · omega
                · exact .inr (.inr h)
            by_cases hf : fresh g t
            · rw [if_pos hf, if_pos (hiff.2 hf)]
              show 54 - 53 + 0 + 1 = 54 - t.pc + 0
              omega
            · rw [if_neg hf, if_neg (fun h => hf (hiff.1 h))]
              show 54 - 53 + 4 + 1 = 54 - t.pc + 4
              omega
        · rw [if_neg p52]
          have p53 : t.pc = 53 := by omega
          by_cases hw : at_ g 12 = t.f ∧ at_ g 13 = t.kw
          · rw [if_pos hw]
            have hin : inuse t.kw = k - L.length := by
              rw [← hw.2, h.slab.cnt]
              exact inuse_pack (by omega) hk
            have hlk := hL.lk p53
            rw [← hw.1] at hlk
            have hS := h.slab.give hni ho hk (by omega) hlk
            simp only [hin]
            refine ⟨(objOf k j : Int) :: L, ⟨by rw [List.length_set]; exact hlen, hS, fun x => ?_, fun i u hu => ?_, fun i u hu hu0 => ?_⟩, .inr (.inr ⟨h0, trivial, by rw [List.length_cons], fun u => ?_⟩)⟩
            · rw [List.mem_cons, h.mem]
              constructor
              · rintro (rfl | ⟨i, u, h1, h2, h3⟩)
                · exact ⟨j, _, by rw [List.getElem?_set_self hjl], rfl, rfl⟩
                · refine ⟨i, u, ?_, h2, h3⟩
                  rw [List.getElem?_set, if_neg (fun hij => ?_), h1]
                  subst hij
                  rw [hj] at h1
                  cases h1
                  omega
              · rintro ⟨i, u, h1, h2, h3⟩
                rcases set_at hjl h1 with ⟨rfl, rfl⟩ | ⟨_, h4⟩
                · exact .inl h3
                · exact .inr ⟨i, u, h4, h2, h3⟩
            · rcases set_at hjl hu with ⟨rfl, rfl⟩ | ⟨_, h4⟩
              · exact .inr rfl
              · exact h.en i u h4
            · rcases set_at hjl hu with ⟨rfl, rfl⟩ | ⟨_, h4⟩
              · cases hu0
              · have hu' := h.live i u h4 hu0
                refine ⟨hu'.pc, hu'.f, hu'.kw, fun hp => ?_⟩
                rw [at_set_ne (by omega), at_set_ne (by omega)]
                exact hu'.lk hp
            · unfold dist
              split <;> split <;> omega
          · rw [if_neg hw]
            refine ⟨L, h.task hj h0 h0 ⟨by show 50 ≤ 50 ∧ 50 ≤ 53; omega, fun hp => absurd hp (by show ¬ 51 ≤ 50; omega), fun hp => absurd hp (by show ¬ 52 ≤ 50; omega), fun hp => absurd hp (by show ¬ 50 = 53; omega)⟩, .inr (.inl ⟨h0, h0, rfl, ?_, fun u => rfl⟩)⟩
            have hnf : ¬ fresh g t := by
              rintro (h | ⟨h, -⟩ | h)
              · omega
              · omega
              · exact hw h
            unfold dist
            rw [if_neg hnf, if_pos (show fresh g { t with pc := 50 } from .inl rfl)]
            show 54 - 50 + 0 + 1 = 54 - t.pc + 4
            omega
  · have hs : stepB k key g (objOf k j) t = (t, g) := by
      unfold stepB
      rw [if_neg (by omega)]
    rw [hs]
    refine ⟨L, ?_, .inl ⟨h1, rfl, rfl⟩⟩
    have : ts.set j t = ts := by
      apply List.ext_getElem?
      intro i
      rw [List.getElem?_set]
      by_cases hij : j = i
      · subst hij
        rw [if_pos rfl, if_pos hjl, hj]
      · rw [if_neg hij]
    rw [this]
    exact h
end
end Go.Proofs.Ytcbljokbechppaa.Ball
