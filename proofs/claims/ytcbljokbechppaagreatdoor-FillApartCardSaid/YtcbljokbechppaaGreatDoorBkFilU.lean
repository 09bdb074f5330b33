import Derived.Test.YtcbljokbechppaaGreatDoorBkFilT
import Derived.Test.YtcbljokbechppaaGreatDoorBkFilRa
/-
  wainscotlaw24.FillApart: its main loop. No condition.
-/
namespace Go.Proofs.YtcbljokbechppaaGreatDoor.Fil
open Go Ex Mem See
open Go.RowKit
/-! what was seen, as numbers -/
theorem slotValL_of {σ : Nat → Int} : ∀ (L : List SlotP) (n b : Nat), L.length = n → (∀ (j : Nat) s, L[j]? = some s → σ (b + 4 * j) = s.slab ∧ σ (b + 4 * j + 1) = s.list.length ∧ σ (b + 4 * j + 2) = s.turn ∧ σ (b + 4 * j + 3) = s.parts.length) → SlotValL σ L n b
  | [], 0, _, _, _ => trivial
  | [], _ + 1, _, h, _ => by cases h
  | _ :: _, 0, _, h, _ => by cases h
  | s :: L, n + 1, b, hl, h => by
    refine ⟨h 0 s rfl, slotValL_of L n (b + 4) (by simpa using hl) fun j s' hj => ?_⟩
    have := h (j + 1) s' (by simpa using hj)
    rw [show b + 4 + 4 * j = b + 4 * (j + 1) by omega]
    exact this
theorem slabValL_of {σ : Nat → Int} : ∀ (L : List SlabP) (n b : Nat), L.length = n → (∀ (j : Nat) s, L[j]? = some s → σ (b + 5 * j) = s.counts.inuse ∧ σ (b + 5 * j + 1) = s.counts.objects ∧ (s.counts.frozen = !(σ (b + 5 * j + 2) == 0)) ∧ (s.counts.live = !(σ (b + 5 * j + 3) == 0)) ∧ σ (b + 5 * j + 4) = s.first.length) → SlabValL σ L n b
  | [], 0, _, _, _ => trivial
  | [], _ + 1, _, h, _ => by cases h
  | _ :: _, 0, _, h, _ => by cases h
  | s :: L, n + 1, b, hl, h => by
    refine ⟨h 0 s rfl, slabValL_of L n (b + 5) (by simpa using hl) fun j s' hj => ?_⟩
    have := h (j + 1) s' (by simpa using hj)
    rw [show b + 5 + 5 * j = b + 5 * (j + 1) by omega]
    exact this
def slotN (s : SlotP) (i : Nat) : Int := if i = 0 then s.slab else if i = 1 then s.list.length else if i = 2 then s.turn else s.parts.length
def slabN (s : SlabP) (i : Nat) : Int := if i = 0 then s.counts.inuse else if i = 1 then s.counts.objects else if i = 2 then (if s.counts.frozen then 1 else 0) else if i = 3 then (if s.counts.live then 1 else 0) else s.first.length
/-- a core's numbers -/
def coreN (n k tk : Nat) (ps : List Ph) (i : Nat) : Int :=
  if i < 4 * n then slotN (slotF (ps.getD (i / 4) .page)) (i % 4) else if i = 4 * n then ((k - tk : Nat) : Int) else if i = 4 * n + 1 then 0 else slabN (slabF k tk ((i - (4 * n + 2)) / 5)) ((i - (4 * n + 2)) % 5)
theorem seeVal_core {σ : Nat → Int} {n k tk b : Nat} {ps : List Ph} (hn : 0 < n) (h : ∀ i, i < 4 * n + 42 → σ (b + i) = coreN n k tk ps i) : SeeValL σ (coreF n k tk ps) n 8 b := by
  refine ⟨slotValL_of _ _ _ (by simp [coreF]) fun j s hj => ?_, ⟨?_, ?_⟩, slabValL_of _ _ _ (by simp [coreF]) fun j s hj => ?_, hn, by omega⟩
  · have hjn : j < n := by
      have := (List.getElem?_eq_some_iff.1 hj).1
      simpa [coreF] using this
    have hs : s = slotF (ps.getD j .page) := by
      simp only [coreF] at hj
      rw [List.getElem?_map, List.getElem?_range hjn] at hj
      simpa using hj.symm
    subst hs
    have e : ∀ r, r < 4 → σ (b + 4 * j + r) = slotN (slotF (ps.getD j .page)) r := fun r hr => by
      rw [Nat.add_assoc, h (4 * j + r) (by omega)]
      unfold coreN
      rw [if_pos (by omega), show (4 * j + r) / 4 = j by omega, show (4 * j + r) % 4 = r by omega]
    exact ⟨e 0 (by omega), e 1 (by omega), e 2 (by omega), e 3 (by omega)⟩
  · rw [h (4 * n) (by omega)]
    unfold coreN
    rw [if_neg (by omega), if_pos rfl]
    simp [coreF, Back.upL_len]
  · rw [Nat.add_assoc, h (4 * n + 1) (by omega)]
    unfold coreN
    rw [if_neg (by omega), if_neg (by omega), if_pos rfl]
    rfl
  · have hjn : j < 8 := by
      have := (List.getElem?_eq_some_iff.1 hj).1
      simpa [coreF] using this
    have hs : s = slabF k tk j := by
      simp only [coreF] at hj
      rw [List.getElem?_map, List.getElem?_range hjn] at hj
      simpa using hj.symm
    subst hs
    have e : ∀ r, r < 5 → σ (b + 4 * n + 2 + 5 * j + r) = slabN (slabF k tk j) r := fun r hr => by
      rw [show b + 4 * n + 2 + 5 * j + r = b + (4 * n + 2 + 5 * j + r) by omega, h (4 * n + 2 + 5 * j + r) (by omega)]
      unfold coreN
      rw [if_neg (by omega), if_neg (by omega), if_neg (by omega), show (4 * n + 2 + 5 * j + r - (4 * n + 2)) / 5 = j by omega, show (4 * n + 2 + 5 * j + r - (4 * n + 2)) % 5 = r by omega]
    have e2 := e 2 (by omega)
    have e3 := e 3 (by omega)
    refine ⟨e 0 (by omega), e 1 (by omega), ?_, ?_, e 4 (by omega)⟩
    · rw [e2]
      show _ = !((if (slabF k tk j).counts.frozen then (1 : Int) else 0) == 0)
      cases (slabF k tk j).counts.frozen <;> rfl
    · rw [e3]
      show _ = !((if (slabF k tk j).counts.live then (1 : Int) else 0) == 0)
      cases (slabF k tk j).counts.live <;> rfl
namespace Nf
def roW (A : Option Addr) (len cap : Nat) : Nat → Option (Option Addr × Nat × Nat) := fun i => if i = 40 then some (A, len, cap) else none
theorem roW_40 {A : Option Addr} {len cap : Nat} : ∀ i p, roW A len cap i = some p → i = 40 := fun i p h => by
  unfold roW at h
  split at h
  · assumption
  · cases h
/-- the numbers behind all -/
def vE (x : Nf) (q : Nat) : Int := if q < 40 then x.vT 500 q else if q < 100 then 0 else coreN x.n x.k (x.st 500).m.tk (x.st 500).ps (q - 100)
def lE (x : Nf) (q : Nat) : List (List Int) := if q < 5 then x.lT 500 q else if q = 9 then one (natsI (gF x.n x.k (x.st 500).m)) else if q = 40 then one x.whose else []
def σE (x : Nf) : Nat → Int := sg x.vE x.lE
attribute [local irreducible] runF
section
variable {x : Nf} (h : x.Ok) {i : Nat} {A : Option Addr} {len cap : Nat}
theorem eev {q : Nat} (hq : q < 2048) : (v q).ev x.σE = x.vE q := by
  show sg x.vE x.lE q = _
  rw [sg_v hq]
theorem eev' {q : Nat} (hq : q < 40) : (v q).ev x.σE = x.vT 500 q := by
  rw [eev (by omega)]
  unfold vE
  rw [if_pos hq]
theorem whose_at {i : Nat} : (SE.at (.lvar 40) (v 6) 0).ev (x.σT i) = x.whose.getD i 0 := by
  show sg (x.vT i) (x.lT i) (lc 40 ((v 6).ev (x.σT i)).toNat 0) = _
  rw [t6, Int.toNat_natCast, sg_one (by omega) rfl]
theorem whose_len {i : Nat} : (SE.len (.lvar 40)).ev (x.σT i) = (x.whose.length : Int) := by
  show ((x.σT i (ln 40)).toNat : Int) = _
  unfold σT
  rw [sg_oneN (by omega) rfl]
  rfl
theorem turn_ev : (turnE x.n).ev (x.σT i) = ((i % x.n : Nat) : Int) := by
  show Int.tmod ((v 6).ev (x.σT i)) (x.n : Int) = _
  rw [t6, Int.tmod_eq_emod_of_nonneg (by omega)]
  rfl
include h
theorem b_ev : (v 47).ev (x.σT i) = ((x.whose.getD i 0 % (x.n : Int)).toNat : Int) ∧ (x.whose.getD i 0 % (x.n : Int)).toNat < x.n := by
  have hn0 := h.n0
  have h1 := Int.emod_nonneg (x.whose.getD i 0) (show (x.n : Int) ≠ 0 by omega)
  have h2 := Int.emod_lt_of_pos (x.whose.getD i 0) (show (0 : Int) < x.n by omega)
  rw [t47]
  generalize x.whose.getD i 0 % (x.n : Int) = r at h1 h2
  omega
theorem facts_who {who : SE} {w : Nat} (hw : who.ev (x.σT i) = (w : Int)) (hwn : w < x.n) : ∀ q ∈ whoFacts x.n who, q.1.ev (x.σT i) = q.2 := by
  have hI := inv h (i := i)
  have hl : w < (x.st i).ps.length := by rw [hI.len]; exact hwn
  have hat : (x.st i).ps[w]? = some (x.st i).ps[w] := List.getElem?_eq_getElem hl
  have lt : ∀ y : Int, (l y).ev (x.σT i) = y := fun _ => rfl
  have f : ∀ {f : Nat}, f < 17 → (at1 who f).ev (x.σT i) = (recP x.k w (x.st i).ps[w]).getD f 0 := fun hf => at1_ev hw hat hf
  have len1 : (SE.len (.lvar 1)).ev (x.σT i) = (x.n : Int) := by
    show ((x.σT i (ln 1)).toNat : Int) = _
    unfold σT
    rw [sg_ln (by omega)]
    show (((recsF x.k (x.st i).ps).length : Int).toNat : Int) = _
    rw [recsF_len, hI.len]
    rfl
  have hr := recP_is x.k w (x.st i).ps[w]
  intro q hq
  rcases List.mem_append.1 hq with hq | hq
  · exact rng_ok hw (by omega) (by omega) q hq
  · simp only [List.mem_cons, List.not_mem_nil, or_false] at hq
    rcases hq with rfl | rfl | rfl | rfl | rfl | rfl | rfl
    · exact lt_t hw len1 (by omega)
    · exact eq_t (f (by omega)) (lt 1) (by rw [hr]; rfl)
    · exact eq_t (f (by omega)) (lt 0) (by rw [hr]; rfl)
    · exact eq_t (f (by omega)) (lt 0) (by rw [hr]; rfl)
    · exact eq_t (f (by omega)) (lt 0) (by rw [hr]; rfl)
    · exact eq_t (f (by omega)) (lt 0) (by rw [hr]; rfl)
    · exact eq_t (f (by omega)) (lt 0) (by rw [hr]; rfl)
theorem facts_2 (hi : i ≤ 500) : ∀ q ∈ f2 x.n, q.1.ev (x.σT i) = q.2 := by
  have hn0 := h.n0
  intro q hq
  simp only [f2, List.append_assoc, List.mem_append, List.mem_singleton] at hq
  rcases hq with hq | rfl | hq | hq
  · exact rng_ok t6 (by omega) (by omega) q hq
  · exact eq_t (y := (x.n : Int)) rfl t0 rfl
  · exact facts_who h turn_ev (Nat.mod_lt _ hn0) q hq
  · exact facts_who h (b_ev h).1 (b_ev h).2 q hq
/-- a step, as the task is stored -/
theorem set_rec {who : SE} {w : Nat} (hw : who.ev (x.σT i) = (w : Int)) (hww : w = x.who i) : LsRec (x.σT i) (setT who) (recsF x.k ((x.st i).ps.set w (x.aft i).1)) := by
  subst hww
  have hat := ph_at h (i := i)
  have hrl : x.who i < (recsF x.k (x.st i).ps).length := by
    rw [recsF_len]
    exact (List.getElem?_eq_some_iff.1 hat).1
  have r1 : LsRec (x.σT i) (.lvar 1) (recsF x.k (x.st i).ps) := LsRec.var' (by omega) rfl
  have lt : ∀ y : Int, (l y).ev (x.σT i) = y := fun _ => rfl
  have e50 : (v 50).ev (x.σT i) = (x.who i : Int) := tev (by omega)
  have e51 : (v 51).ev (x.σT i) = (x.r' i).getD 2 0 := tev (by omega)
  have e52 : (v 52).ev (x.σT i) = (x.r' i).getD 3 0 := tev (by omega)
  have e53 : (v 53).ev (x.σT i) = (x.r' i).getD 4 0 := tev (by omega)
  have e54 : (v 54).ev (x.σT i) = (x.r' i).getD 5 0 := tev (by omega)
  have e55 : (v 55).ev (x.σT i) = (x.r' i).getD 6 0 := tev (by omega)
  have e56 : (v 56).ev (x.σT i) = (x.r' i).getD 8 0 := tev (by omega)
  have e57 : (v 57).ev (x.σT i) = (x.r' i).getD 9 0 := tev (by omega)
  have e58 : (v 58).ev (x.σT i) = (x.r' i).getD 10 0 := tev (by omega)
  have e59 : (v 59).ev (x.σT i) = (x.r' i).getD 11 0 := tev (by omega)
  have e60 : (v 60).ev (x.σT i) = (x.r' i).getD 12 0 := tev (by omega)
  have hr' : x.r' i = recP x.k (x.who i) (x.aft i).1 := rfl
  have hn := recP_is x.k (x.who i) (x.aft i).1
  have ho := recP_is x.k (x.who i) (x.ph i)
  rw [← recsF_set, hn]
  rw [hr'] at e51 e52 e53 e54 e55 e56 e57 e58 e59 e60
  have b0 : LsRec (x.σT i) (.lvar 1) ((recsF x.k (x.st i).ps).set (x.who i) (recP x.k (x.who i) (x.ph i))) := by
    rw [recsF_set]
    have e : (x.st i).ps.set (x.who i) (x.ph i) = (x.st i).ps := by
      apply List.ext_getElem?
      intro j
      rw [List.getElem?_set]
      by_cases hj : x.who i = j
      · subst hj
        rw [if_pos rfl, if_pos (List.getElem?_eq_some_iff.1 hat).1, hat]
      · rw [if_neg hj]
    rw [e]
    exact r1
  rw [ho] at b0
  generalize (recP x.k (x.who i) (x.aft i).1).getD 2 0 = n2 at e51 ⊢
  generalize (recP x.k (x.who i) (x.aft i).1).getD 3 0 = n3 at e52 ⊢
  generalize (recP x.k (x.who i) (x.aft i).1).getD 4 0 = n4 at e53 ⊢
  generalize (recP x.k (x.who i) (x.aft i).1).getD 5 0 = n5 at e54 ⊢
  generalize (recP x.k (x.who i) (x.aft i).1).getD 6 0 = n6 at e55 ⊢
  generalize (recP x.k (x.who i) (x.aft i).1).getD 8 0 = n8 at e56 ⊢
  generalize (recP x.k (x.who i) (x.aft i).1).getD 9 0 = n9 at e57 ⊢
  generalize (recP x.k (x.who i) (x.aft i).1).getD 10 0 = n10 at e58 ⊢
  generalize (recP x.k (x.who i) (x.aft i).1).getD 11 0 = n11 at e59 ⊢
  generalize (recP x.k (x.who i) (x.aft i).1).getD 12 0 = n12 at e60 ⊢
  generalize (recP x.k (x.who i) (x.ph i)).getD 2 0 = o2 at b0
  generalize (recP x.k (x.who i) (x.ph i)).getD 3 0 = o3 at b0
  generalize (recP x.k (x.who i) (x.ph i)).getD 4 0 = o4 at b0
  generalize (recP x.k (x.who i) (x.ph i)).getD 5 0 = o5 at b0
  generalize (recP x.k (x.who i) (x.ph i)).getD 6 0 = o6 at b0
  generalize (recP x.k (x.who i) (x.ph i)).getD 8 0 = o8 at b0
  generalize (recP x.k (x.who i) (x.ph i)).getD 9 0 = o9 at b0
  generalize (recP x.k (x.who i) (x.ph i)).getD 10 0 = o10 at b0
  generalize (recP x.k (x.who i) (x.ph i)).getD 11 0 = o11 at b0
  generalize (recP x.k (x.who i) (x.ph i)).getD 12 0 = o12 at b0
  -- a change of the record alone
  have st : ∀ {L : SE} (y : List Int) {e : SE} (f : Nat) (z : Int) (y' : List Int), y.set f z = y' → f < y.length → LsRec (x.σT i) L ((recsF x.k (x.st i).ps).set (x.who i) y) → e.ev (x.σT i) = z → LsRec (x.σT i) (.lset L who f e) ((recsF x.k (x.st i).ps).set (x.who i) y') := by
    intro L y e f z y' hy' hf hL he
    subst hy'
    have hg : ((recsF x.k (x.st i).ps).set (x.who i) y)[x.who i]? = some y := List.getElem?_set_self hrl
    have := Fil.setF (f := f) hL hw he (by rw [List.length_set]; exact hrl) (by rw [hg]; exact hf)
    rw [hg, Option.getD_some, List.set_set] at this
    exact this
  generalize hj : x.who i = j at b0 st e50 ⊢
  have b1 := st [1, (j : Int), o2, o3, o4, o5, o6, 0, o8, o9, o10, o11, o12, 0, 0, 0, 0] 0 (1) [1, (j : Int), o2, o3, o4, o5, o6, 0, o8, o9, o10, o11, o12, 0, 0, 0, 0] rfl (by simp) b0 (lt 1)
  have b2 := st [1, (j : Int), o2, o3, o4, o5, o6, 0, o8, o9, o10, o11, o12, 0, 0, 0, 0] 1 ((j : Int)) [1, (j : Int), o2, o3, o4, o5, o6, 0, o8, o9, o10, o11, o12, 0, 0, 0, 0] rfl (by simp) b1 (e50)
  have b3 := st [1, (j : Int), o2, o3, o4, o5, o6, 0, o8, o9, o10, o11, o12, 0, 0, 0, 0] 2 (n2) [1, (j : Int), n2, o3, o4, o5, o6, 0, o8, o9, o10, o11, o12, 0, 0, 0, 0] rfl (by simp) b2 (e51)
  have b4 := st [1, (j : Int), n2, o3, o4, o5, o6, 0, o8, o9, o10, o11, o12, 0, 0, 0, 0] 3 (n3) [1, (j : Int), n2, n3, o4, o5, o6, 0, o8, o9, o10, o11, o12, 0, 0, 0, 0] rfl (by simp) b3 (e52)
  have b5 := st [1, (j : Int), n2, n3, o4, o5, o6, 0, o8, o9, o10, o11, o12, 0, 0, 0, 0] 4 (n4) [1, (j : Int), n2, n3, n4, o5, o6, 0, o8, o9, o10, o11, o12, 0, 0, 0, 0] rfl (by simp) b4 (e53)
  have b6 := st [1, (j : Int), n2, n3, n4, o5, o6, 0, o8, o9, o10, o11, o12, 0, 0, 0, 0] 5 (n5) [1, (j : Int), n2, n3, n4, n5, o6, 0, o8, o9, o10, o11, o12, 0, 0, 0, 0] rfl (by simp) b5 (e54)
  have b7 := st [1, (j : Int), n2, n3, n4, n5, o6, 0, o8, o9, o10, o11, o12, 0, 0, 0, 0] 6 (n6) [1, (j : Int), n2, n3, n4, n5, n6, 0, o8, o9, o10, o11, o12, 0, 0, 0, 0] rfl (by simp) b6 (e55)
  have b8 := st [1, (j : Int), n2, n3, n4, n5, n6, 0, o8, o9, o10, o11, o12, 0, 0, 0, 0] 7 (0) [1, (j : Int), n2, n3, n4, n5, n6, 0, o8, o9, o10, o11, o12, 0, 0, 0, 0] rfl (by simp) b7 (lt 0)
  have b9 := st [1, (j : Int), n2, n3, n4, n5, n6, 0, o8, o9, o10, o11, o12, 0, 0, 0, 0] 8 (n8) [1, (j : Int), n2, n3, n4, n5, n6, 0, n8, o9, o10, o11, o12, 0, 0, 0, 0] rfl (by simp) b8 (e56)
  have b10 := st [1, (j : Int), n2, n3, n4, n5, n6, 0, n8, o9, o10, o11, o12, 0, 0, 0, 0] 9 (n9) [1, (j : Int), n2, n3, n4, n5, n6, 0, n8, n9, o10, o11, o12, 0, 0, 0, 0] rfl (by simp) b9 (e57)
  have b11 := st [1, (j : Int), n2, n3, n4, n5, n6, 0, n8, n9, o10, o11, o12, 0, 0, 0, 0] 10 (n10) [1, (j : Int), n2, n3, n4, n5, n6, 0, n8, n9, n10, o11, o12, 0, 0, 0, 0] rfl (by simp) b10 (e58)
  have b12 := st [1, (j : Int), n2, n3, n4, n5, n6, 0, n8, n9, n10, o11, o12, 0, 0, 0, 0] 11 (n11) [1, (j : Int), n2, n3, n4, n5, n6, 0, n8, n9, n10, n11, o12, 0, 0, 0, 0] rfl (by simp) b11 (e59)
  have b13 := st [1, (j : Int), n2, n3, n4, n5, n6, 0, n8, n9, n10, n11, o12, 0, 0, 0, 0] 12 (n12) [1, (j : Int), n2, n3, n4, n5, n6, 0, n8, n9, n10, n11, n12, 0, 0, 0, 0] rfl (by simp) b12 (e60)
  have b14 := st [1, (j : Int), n2, n3, n4, n5, n6, 0, n8, n9, n10, n11, n12, 0, 0, 0, 0] 13 (0) [1, (j : Int), n2, n3, n4, n5, n6, 0, n8, n9, n10, n11, n12, 0, 0, 0, 0] rfl (by simp) b13 (lt 0)
  have b15 := st [1, (j : Int), n2, n3, n4, n5, n6, 0, n8, n9, n10, n11, n12, 0, 0, 0, 0] 14 (0) [1, (j : Int), n2, n3, n4, n5, n6, 0, n8, n9, n10, n11, n12, 0, 0, 0, 0] rfl (by simp) b14 (lt 0)
  have b16 := st [1, (j : Int), n2, n3, n4, n5, n6, 0, n8, n9, n10, n11, n12, 0, 0, 0, 0] 15 (0) [1, (j : Int), n2, n3, n4, n5, n6, 0, n8, n9, n10, n11, n12, 0, 0, 0, 0] rfl (by simp) b15 (lt 0)
  have b17 := st [1, (j : Int), n2, n3, n4, n5, n6, 0, n8, n9, n10, n11, n12, 0, 0, 0, 0] 16 (0) [1, (j : Int), n2, n3, n4, n5, n6, 0, n8, n9, n10, n11, n12, 0, 0, 0, 0] rfl (by simp) b16 (lt 0)
  exact b17
/-- the next state -/
theorem st_next : x.st (i + 1) = ⟨(x.aft i).2, (x.st i).ps.set (x.who i) (x.aft i).1, if (x.ph i).idle then (x.st i).cnt else (x.st i).cnt + 1⟩ := by
  unfold Nf.st
  rw [runF_succ]
  exact nxtF_some (ph_at h)
omit h in
theorem vT_const {i i' j : Nat} (hj : j < 40) (j6 : j ≠ 6) (j18 : j ≠ 18) : x.vT i j = x.vT i' j := by
  unfold vT
  rw [List.getD_eq_getElem?_getD, List.getD_eq_getElem?_getD]
  match j, hj, j6, j18 with
  | 0, _, _, _ => rfl
  | 1, _, _, _ => rfl
  | 2, _, _, _ => rfl
  | 3, _, _, _ => rfl
  | 4, _, _, _ => rfl
  | 5, _, _, _ => rfl
  | 6, _, h, _ => exact absurd rfl h
  | 7, _, _, _ => rfl
  | 8, _, _, _ => rfl
  | 9, _, _, _ => rfl
  | 10, _, _, _ => rfl
  | 11, _, _, _ => rfl
  | 12, _, _, _ => rfl
  | 13, _, _, _ => rfl
  | 14, _, _, _ => rfl
  | 15, _, _, _ => rfl
  | 16, _, _, _ => rfl
  | 17, _, _, _ => rfl
  | 18, _, _, h => exact absurd rfl h
  | 19, _, _, _ => rfl
  | 20, _, _, _ => rfl
  | 21, _, _, _ => rfl
  | 22, _, _, _ => rfl
  | 23, _, _, _ => rfl
  | 24, _, _, _ => rfl
  | 25, _, _, _ => rfl
  | 26, _, _, _ => rfl
  | 27, _, _, _ => rfl
  | 28, _, _, _ => rfl
  | 29, _, _, _ => rfl
  | 30, _, _, _ => rfl
  | 31, _, _, _ => rfl
  | 32, _, _, _ => rfl
  | 33, _, _, _ => rfl
  | 34, _, _, _ => rfl
  | 35, _, _, _ => rfl
  | 36, _, _, _ => rfl
  | 37, _, _, _ => rfl
  | 38, _, _, _ => rfl
  | 39, _, _, _ => rfl
  | j + 40, h, _, _ => exact absurd h (by omega)
/-- where a round leads -/
def K2 (x : Nf) (A : Option Addr) (len cap i : Nat) (o : LO) : Prop := match o with
  | .cont θ => ∃ i', i' ≤ 500 ∧ 500 - i' < 500 - i ∧ AgreeD θ (T2 x.n x.k true).b (roW A len cap) (x.σT i) Ωn (x.σT i') Ωn
  | .out θ => AgreeD θ (T2 x.n x.k false).b (roW A len cap) (x.σT i) Ωn x.σE Ωn
omit h in
theorem agree_next (hi : i < 500) {θ : Sub} (h6 : θ.vAt 6 = .bin .add (v 6) (l 1)) (h18 : (θ.vAt 18).ev (x.σT i) = ((x.st (i + 1)).cnt : Int)) (hv : ∀ j, j ≠ 6 → j ≠ 18 → θ.vAt j = .var j)
    (h1 : LsRec (x.σT i) (θ.lAt 1) (recsF x.k (x.st (i + 1)).ps)) (h2 : LsRec (x.σT i) (θ.lAt 2) (one (natsI (gF x.n x.k (x.st (i + 1)).m)))) (hl : ∀ j, j ≠ 1 → j ≠ 2 → θ.lAt j = .lvar j) :
    AgreeD θ ⟨40, 5, 0, 3004⟩ (roW A len cap) (x.σT i) Ωn (x.σT (i + 1)) Ωn := by
  refine agree_sgR (fun j p hp => by obtain rfl := roW_40 j p hp; exact ⟨by omega, LsRec.var' (by omega) rfl⟩) (by decide) (by decide) rfl (fun j hj => ?_) fun q hq => ?_
  · have hj : j < 40 := hj
    by_cases j6 : j = 6
    · subst j6
      rw [h6]
      show ((i + 1 : Nat) : Int) = IntKind.i64.wrap ((v 6).ev (x.σT i) + 1)
      rw [t6, i64_small (by omega) (by omega)]
      rfl
    · by_cases j18 : j = 18
      · subst j18
        rw [h18]
        rfl
      · rw [hv j j6 j18]
        show _ = sg _ _ j
        rw [sg_v (by omega)]
        exact vT_const hj j6 j18
  · have hq : q < 5 := hq
    match q, hq with
    | 0, _ => rw [hl 0 (by omega) (by omega)]; exact LsRec.var' (by omega) rfl
    | 1, _ => exact h1
    | 2, _ => exact h2
    | 3, _ => rw [hl 3 (by omega) (by omega)]; exact LsRec.var' (by omega) rfl
    | 4, _ => rw [hl 4 (by omega) (by omega)]; exact LsRec.var' (by omega) rfl
    | q + 5, hq => exact absurd hq (by omega)
/-- a step's ways on -/
theorem round_st (hi : i < 500) {who : SE} {w : Nat} (hw : who.ev (x.σT i) = (w : Int)) (hww : w = x.who i) : RunL (x.σT i) (K2 x A len cap i) (stT who) := by
  have hat := ph_at h (i := i)
  have hnx := st_next h (i := i)
  have hww' := hww
  subst hww'
  refine ⟨fun _ => ⟨fun h3 => ?_, fun h3 => ?_⟩, fun hne => ?_⟩
  · have h3 : ((v 46).ev (x.σT i) == 0) = true := h3
    rw [t46] at h3
    have h0 : (x.ph i).idle = false := by
      cases hid : (x.ph i).idle with
      | false => rfl
      | true => rw [hid] at h3; simp at h3
    rw [h0] at hnx
    refine ⟨i + 1, by omega, by omega, agree_next hi rfl ?_ (fun j h6 h18 => ?_) ?_ ?_ (fun j h1 h2 => ?_)⟩
    · show (v 61).ev (x.σT i) = _
      rw [t61, hnx]
      rfl
    · unfold Sub.vAt
      rw [lookS_ne (fun h => h6 h.symm), lookS_ne (fun h => h18 h.symm)]
      rfl
    · rw [hnx]
      exact set_rec h hw rfl
    · rw [hnx]
      exact LsRec.var' (q := 6) (by omega) rfl
    · unfold Sub.lAt
      rw [lookS_ne (fun h => h1 h.symm), lookS_ne (fun h => h2 h.symm)]
      rfl
  · have h3 : ((v 46).ev (x.σT i) == 0) = false := h3
    rw [t46] at h3
    have h0 : (x.ph i).idle = true := by
      cases hid : (x.ph i).idle with
      | true => rfl
      | false => rw [hid] at h3; simp at h3
    have haft : x.aft i = (x.ph i, (x.st i).m) := by
      unfold Nf.aft
      cases hp : x.ph i <;> rw [hp] at h0 <;> first | (cases h0; done) | rfl
    rw [h0, haft] at hnx
    have hts : (x.st i).ps.set (x.who i) (x.ph i) = (x.st i).ps := by
      apply List.ext_getElem?
      intro j
      rw [List.getElem?_set]
      by_cases hj : x.who i = j
      · subst hj
        rw [if_pos rfl, if_pos (List.getElem?_eq_some_iff.1 hat).1, hat]
      · rw [if_neg hj]
    simp only [hts] at hnx
    refine ⟨i + 1, by omega, by omega, agree_next hi rfl ?_ (fun j h6 h18 => ?_) ?_ ?_ (fun j h1 h2 => ?_)⟩
    · show (v 18).ev (x.σT i) = _
      rw [t18, hnx]
      rfl
    · unfold Sub.vAt
      rw [lookS_ne (fun h => h6 h.symm)]
      rfl
    · rw [hnx]
      exact LsRec.var' (q := 1) (by omega) rfl
    · rw [hnx]
      exact LsRec.var' (q := 2) (by omega) rfl
    · rfl
  · have hne : (who.ev (x.σT i) == (v 44).ev (x.σT i)) = false := hne
    rw [hw, t44] at hne
    simp at hne
theorem round_2 (hi : i ≤ 500) : RunL (x.σT i) (K2 x A len cap i) (D2 x.n) := by
  refine ⟨fun h260 => ?_, fun h260 => ?_⟩
  · have hi : i < 500 := by
      have := of_decide_eq_true (show decide ((v 6).ev (x.σT i) < 500) = true from h260)
      rw [t6] at this
      omega
    have turn : ¬ (i < 100 ∧ i < x.whose.length) → RunL (x.σT i) (K2 x A len cap i) (stT (turnE x.n)) := fun hn => by
      refine round_st h hi turn_ev ?_
      unfold Nf.who whoF
      rw [if_neg hn]
    refine ⟨fun h60 => ⟨fun hln => ?_, fun hln => ?_⟩, fun h60 => ?_⟩
    · have h60 : i < 100 := by
        have := of_decide_eq_true (show decide ((v 6).ev (x.σT i) < 100) = true from h60)
        rw [t6] at this
        omega
      have hln : i < x.whose.length := by
        have := of_decide_eq_true (show decide ((v 6).ev (x.σT i) < (SE.len (.lvar 40)).ev (x.σT i)) = true from hln)
        rw [t6, whose_len] at this
        omega
      refine round_st h hi (b_ev h).1 ?_
      unfold Nf.who whoF
      rw [if_pos ⟨h60, hln⟩]
    · refine turn fun hc => ?_
      have := of_decide_eq_false (show decide ((v 6).ev (x.σT i) < (SE.len (.lvar 40)).ev (x.σT i)) = false from hln)
      rw [t6, whose_len] at this
      omega
    · refine turn fun hc => ?_
      have := of_decide_eq_false (show decide ((v 6).ev (x.σT i) < 100) = false from h60)
      rw [t6] at this
      omega
  · have hi : i = 500 := by
      have := of_decide_eq_false (show decide ((v 6).ev (x.σT i) < 500) = false from h260)
      rw [t6] at this
      omega
    subst hi
    show AgreeD _ ⟨40, 5, 0, 3004⟩ _ _ _ _ _
    refine agree_sgR (fun j p hp => by obtain rfl := roW_40 j p hp; exact ⟨by omega, LsRec.var' (by omega) rfl⟩) (by decide) (by decide) rfl (fun j hj => ?_) fun q hq => ?_
    · have hj : j < 40 := hj
      rw [vAt_nil rfl]
      show x.vE j = sg _ _ j
      rw [sg_v (by omega)]
      unfold vE
      rw [if_pos hj]
    · have hq : q < 5 := hq
      rw [lAt_nil rfl]
      refine LsRec.var' (by omega) ?_
      unfold lE
      rw [if_pos hq]
variable (hwf : ∀ y ∈ x.whose, (Lit.int .i64 y).wf = true)
include hwf
theorem kcs_2 (hi : i ≤ 500) : KcAll FillTab.gs rk40 (roW A len cap) Tryz.prog (x.σT i) Ωn (kcs2 x.n) := by
  have hn0 := h.n0
  have hn6 := h.n6
  have ht := turn_ev (x := x) (i := i)
  have hb := b_ev h (i := i)
  refine kcAll_cons (fun fs ok => ?_) (kcAll_cons (fun fs ok => ?_) (kcAll_cons (fun fs ok => ?_) (kcAll_cons (fun fs ok => ?_) (kcAll_cons (fun fs ok => ?_) kcAll_nil))))
  · letI N : Nums := nums FillTab.gs rk40 (roW A len cap) (x.σT i) Ωn fs ok
    refine kc_bring (x := x.whose.getD i 0) (n := (x.n : Int)) rfl rfl (by show Value.int .i64 ((SE.at (.lvar 40) (v 6) 0).ev (x.σT i)) = _; rw [whose_at]) rfl (by omega) (by omega) ?_ t47
    rw [List.getD_eq_getElem?_getD]
    cases hg : x.whose[i]? with
    | none => rfl
    | some y => exact hwf y (List.mem_of_getElem? hg)
  · exact kc_stepW h roW_40 hi ht (Nat.mod_lt _ hn0) fs ok
  · exact kc_idleW h roW_40 hi ht (Nat.mod_lt _ hn0) fs ok
  · exact kc_stepW h roW_40 hi hb.1 hb.2 fs ok
  · exact kc_idleW h roW_40 hi hb.1 hb.2 fs ok
end
end Nf
end Go.Proofs.YtcbljokbechppaaGreatDoor.Fil
