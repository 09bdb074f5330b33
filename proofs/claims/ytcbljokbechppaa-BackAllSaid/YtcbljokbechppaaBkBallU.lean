import Derived.Test.YtcbljokbechppaaBkBallT
/-
  wainscotlaw23.BackAll: its main loop. No condition.
-/
namespace Go.Proofs.Ytcbljokbechppaa.Ball
open Go Ex Mem See Fast Back
open Go.RowKit
namespace Nl
def roW (A : Option Addr) (len cap : Nat) : Nat → Option (Option Addr × Nat × Nat) := fun i => if i = 40 then some (A, len, cap) else none
theorem roW_40 {A : Option Addr} {len cap : Nat} : ∀ i p, roW A len cap i = some p → i = 40 := fun i p h => by
  unfold roW at h
  split at h
  · assumption
  · cases h
/-- the numbers behind all; L: what is seen -/
def vE (x : Nl) (q : Nat) : Int := if q < 40 then x.vT 260 q else (List.replicate 10 0 ++ [-1, 0, 0, 0, 0, 0, 0, (x.k : Int) - x.n, x.k, 1, 1]).getD (q - 40) 0
def lE (x : Nl) (L : List Int) (q : Nat) : List (List Int) := if q < 5 then x.lT 260 q else if q = 9 then one (natsI (x.st 260).g) else if q = 14 then one L else if q = 40 then one x.whose else []
def σE (x : Nl) (L : List Int) : Nat → Int := sg x.vE (x.lE L)
section
variable {x : Nl} (h : x.Ok) {i : Nat} {L : List Int} {A : Option Addr} {len cap : Nat}
theorem eev {q : Nat} (hq : q < 2048) : (v q).ev (x.σE L) = x.vE q := by
  show sg x.vE (x.lE L) q = _
  rw [sg_v hq]
theorem eev' {q : Nat} (hq : q < 40) : (v q).ev (x.σE L) = x.vT 260 q := by
  rw [eev (by omega)]
  unfold vE
  rw [if_pos hq]
theorem whose_at {i : Nat} : (SE.at (.lvar 40) (v 6) 0).ev (x.σT i) = x.whose.getD i 0 := by
  show sg (x.vT i) (x.lT i) (lc 40 ((v 6).ev (x.σT i)).toNat 0) = _
  rw [t6, Int.toNat_natCast, sg_one (by omega) rfl]
theorem whose_len {i : Nat} : (SE.len (.lvar 40)).ev (x.σT i) = (x.whose.length : Int) := by
  show ((x.σT i (ln 40)).toNat : Int) = _
  unfold σT
  rw [sg_oneN (by omega) rfl]
  rfl
include h
omit h in
theorem turn_ev : turnE.ev (x.σT i) = ((i % x.n : Nat) : Int) := by
  show Int.tmod ((v 6).ev (x.σT i)) ((v 19).ev (x.σT i)) = _
  rw [t6, t19, Int.tmod_eq_emod_of_nonneg (by omega)]
  rfl
theorem b_ev : (v 47).ev (x.σT i) = ((x.whose.getD i 0 % (x.n : Int)).toNat : Int) ∧ (x.whose.getD i 0 % (x.n : Int)).toNat < x.n := by
  have hn0 := h.n0
  have h1 := Int.emod_nonneg (x.whose.getD i 0) (show (x.n : Int) ≠ 0 by omega)
  have h2 := Int.emod_lt_of_pos (x.whose.getD i 0) (show (0 : Int) < x.n by omega)
  rw [t47]
  generalize x.whose.getD i 0 % (x.n : Int) = r at h1 h2
  omega
theorem facts_who {who : SE} {w : Nat} (hw : who.ev (x.σT i) = (w : Int)) (hwn : w < x.n) : ∀ q ∈ whoFacts who, q.1.ev (x.σT i) = q.2 := by
  have hn6 := h.n6
  obtain ⟨L', hI⟩ := inv h (i := i)
  have hl : w < (x.st i).ts.length := by rw [hI.len]; exact hwn
  have hat : (x.st i).ts[w]? = some (x.st i).ts[w] := List.getElem?_eq_getElem hl
  have lt : ∀ y : Int, (l y).ev (x.σT i) = y := fun _ => rfl
  have f : ∀ {f : Nat}, f < 17 → (at1 who f).ev (x.σT i) = (recT (objOf x.k w) (x.st i).ts[w]).getD f 0 := fun hf => at1_ev hw hat hf
  have len1 : (SE.len (.lvar 1)).ev (x.σT i) = (x.n : Int) := by
    show ((x.σT i (ln 1)).toNat : Int) = _
    unfold σT
    rw [sg_ln (by omega)]
    show (((recsT x.k (x.st i).ts).length : Int).toNat : Int) = _
    rw [recsT_len, hI.len]
    rfl
  intro q hq
  simp only [whoFacts, List.mem_cons, List.not_mem_nil, or_false] at hq
  rcases hq with rfl | rfl | rfl | rfl | rfl | rfl | rfl | rfl | rfl | rfl | rfl | rfl | rfl | rfl | rfl | rfl
  · exact lt_t hw t19 (by omega)
  · exact lt_f hw (lt 0) (by omega)
  · exact lt_t hw (lt 6) (by omega)
  · exact lt_t hw len1 (by omega)
  · exact eq_t (f (by omega)) (lt 2) rfl
  · exact eq_t (f (by omega)) (lt 0) rfl
  · exact eq_t (f (by omega)) (lt 0) rfl
  · exact eq_t (f (by omega)) (lt 1) rfl
  · exact eq_t (f (by omega)) (lt 0) rfl
  · exact eq_t (f (by omega)) (lt 0) rfl
  · exact eq_t (f (by omega)) (lt 0) rfl
  · exact eq_t (f (by omega)) (lt 0) rfl
  · exact eq_t (f (by omega)) (lt 0) rfl
  · exact eq_t (f (by omega)) (lt 0) rfl
  · exact eq_t (f (by omega)) (lt 0) rfl
  · exact eq_t (f (by omega)) (lt 0) rfl
theorem facts_2 (hi : i ≤ 260) : ∀ q ∈ f2, q.1.ev (x.σT i) = q.2 := by
  have hn0 := h.n0
  have hn6 := h.n6
  have lt : ∀ y : Int, (l y).ev (x.σT i) = y := fun _ => rfl
  intro q hq
  rcases List.mem_append.1 hq with hq | hq
  · rcases List.mem_append.1 hq with hq | hq
    · simp only [List.mem_cons, List.not_mem_nil, or_false] at hq
      rcases hq with rfl | rfl | rfl | rfl | rfl | rfl
      · exact lt_f t6 (lt 0) (by omega)
      · exact lt_t t6 (lt 1000) (by omega)
      · exact lt_f t19 (lt 1) (by omega)
      · exact lt_t t19 (lt 7) (by omega)
      · exact lt_t (lt 0) t19 (by omega)
      · exact eq_f t19 (lt 0) (by omega)
    · exact facts_who h (turn_ev) (Nat.mod_lt _ hn0) q hq
  · exact facts_who h (b_ev h).1 (b_ev h).2 q hq
/-- a step, as the task is stored -/
theorem set_rec {who : SE} {w : Nat} (hw : who.ev (x.σT i) = (w : Int)) (hww : w = x.who i) : LsRec (x.σT i) (setT who) (recsT x.k ((x.st i).ts.set w (x.aft i).1)) := by
  subst hww
  have hat := tk_at h (i := i)
  have hrl : x.who i < (recsT x.k (x.st i).ts).length := by
    rw [recsT_len]
    exact (List.getElem?_eq_some_iff.1 hat).1
  have r1 : LsRec (x.σT i) (.lvar 1) (recsT x.k (x.st i).ts) := LsRec.var' (by omega) rfl
  have lt : ∀ y : Int, (l y).ev (x.σT i) = y := fun _ => rfl
  have tv : ∀ {q : Nat}, q < 2048 → (v q).ev (x.σT i) = x.vT i q := fun hq => tev hq
  have t48 : (v 48).ev (x.σT i) = ((x.aft i).1.pc : Int) := tev (by omega)
  have t49 : (v 49).ev (x.σT i) = ((x.aft i).1.en : Int) := tev (by omega)
  have t45 : (v 45).ev (x.σT i) = (objOf x.k (x.who i) : Int) := tev (by omega)
  have t41 : (v 41).ev (x.σT i) = ((x.aft i).1.f : Int) := tev (by omega)
  have t42 : (v 42).ev (x.σT i) = ((x.aft i).1.kw : Int) := tev (by omega)
  generalize (x.aft i).1 = t' at t48 t49 t41 t42 ⊢
  generalize (x.tk i) = t at hat
  -- a change of the record alone
  have st : ∀ {L : SE} (y : List Int) {e : SE} (f : Nat) (z : Int) (y' : List Int), y.set f z = y' → f < y.length → LsRec (x.σT i) L ((recsT x.k (x.st i).ts).set (x.who i) y) → e.ev (x.σT i) = z → LsRec (x.σT i) (.lset L who f e) ((recsT x.k (x.st i).ts).set (x.who i) y') := by
    intro L y e f z y' hy' hf hL he
    subst hy'
    have hg : ((recsT x.k (x.st i).ts).set (x.who i) y)[x.who i]? = some y := List.getElem?_set_self hrl
    have := LsRec.setF (f := f) hL hw he (by rw [List.length_set]; exact hrl) (by rw [hg]; exact hf)
    rw [hg, Option.getD_some, List.set_set] at this
    exact this
  have b0 : LsRec (x.σT i) (.lvar 1) ((recsT x.k (x.st i).ts).set (x.who i) (recT (objOf x.k (x.who i)) t)) := by
    have e : (recsT x.k (x.st i).ts).set (x.who i) (recT (objOf x.k (x.who i)) t) = recsT x.k (x.st i).ts := by
      apply List.ext_getElem?
      intro j
      rw [List.getElem?_set]
      by_cases hj : x.who i = j
      · subst hj
        rw [if_pos rfl, if_pos hrl, recsT_at hat]
      · rw [if_neg hj]
    rw [e]
    exact r1
  rw [← recsT_set]
  generalize (objOf x.k (x.who i)) = o at t45 b0 ⊢
  have b1 := st [2, 0, (t.pc : Int), (t.en : Int), 0, 1, (o : Int), 0, 0, (t.f : Int), (t.kw : Int), 0, 0, 0, 0, 0, 0] 0 (2) [2, 0, (t.pc : Int), (t.en : Int), 0, 1, (o : Int), 0, 0, (t.f : Int), (t.kw : Int), 0, 0, 0, 0, 0, 0] rfl (by simp) b0 (lt 2)
  have b2 := st [2, 0, (t.pc : Int), (t.en : Int), 0, 1, (o : Int), 0, 0, (t.f : Int), (t.kw : Int), 0, 0, 0, 0, 0, 0] 1 (0) [2, 0, (t.pc : Int), (t.en : Int), 0, 1, (o : Int), 0, 0, (t.f : Int), (t.kw : Int), 0, 0, 0, 0, 0, 0] rfl (by simp) b1 (lt 0)
  have b3 := st [2, 0, (t.pc : Int), (t.en : Int), 0, 1, (o : Int), 0, 0, (t.f : Int), (t.kw : Int), 0, 0, 0, 0, 0, 0] 2 ((t'.pc : Int)) [2, 0, (t'.pc : Int), (t.en : Int), 0, 1, (o : Int), 0, 0, (t.f : Int), (t.kw : Int), 0, 0, 0, 0, 0, 0] rfl (by simp) b2 (t48)
  have b4 := st [2, 0, (t'.pc : Int), (t.en : Int), 0, 1, (o : Int), 0, 0, (t.f : Int), (t.kw : Int), 0, 0, 0, 0, 0, 0] 3 ((t'.en : Int)) [2, 0, (t'.pc : Int), (t'.en : Int), 0, 1, (o : Int), 0, 0, (t.f : Int), (t.kw : Int), 0, 0, 0, 0, 0, 0] rfl (by simp) b3 (t49)
  have b5 := st [2, 0, (t'.pc : Int), (t'.en : Int), 0, 1, (o : Int), 0, 0, (t.f : Int), (t.kw : Int), 0, 0, 0, 0, 0, 0] 4 (0) [2, 0, (t'.pc : Int), (t'.en : Int), 0, 1, (o : Int), 0, 0, (t.f : Int), (t.kw : Int), 0, 0, 0, 0, 0, 0] rfl (by simp) b4 (lt 0)
  have b6 := st [2, 0, (t'.pc : Int), (t'.en : Int), 0, 1, (o : Int), 0, 0, (t.f : Int), (t.kw : Int), 0, 0, 0, 0, 0, 0] 5 (1) [2, 0, (t'.pc : Int), (t'.en : Int), 0, 1, (o : Int), 0, 0, (t.f : Int), (t.kw : Int), 0, 0, 0, 0, 0, 0] rfl (by simp) b5 (lt 1)
  have b7 := st [2, 0, (t'.pc : Int), (t'.en : Int), 0, 1, (o : Int), 0, 0, (t.f : Int), (t.kw : Int), 0, 0, 0, 0, 0, 0] 6 ((o : Int)) [2, 0, (t'.pc : Int), (t'.en : Int), 0, 1, (o : Int), 0, 0, (t.f : Int), (t.kw : Int), 0, 0, 0, 0, 0, 0] rfl (by simp) b6 (t45)
  have b8 := st [2, 0, (t'.pc : Int), (t'.en : Int), 0, 1, (o : Int), 0, 0, (t.f : Int), (t.kw : Int), 0, 0, 0, 0, 0, 0] 7 (0) [2, 0, (t'.pc : Int), (t'.en : Int), 0, 1, (o : Int), 0, 0, (t.f : Int), (t.kw : Int), 0, 0, 0, 0, 0, 0] rfl (by simp) b7 (lt 0)
  have b9 := st [2, 0, (t'.pc : Int), (t'.en : Int), 0, 1, (o : Int), 0, 0, (t.f : Int), (t.kw : Int), 0, 0, 0, 0, 0, 0] 8 (0) [2, 0, (t'.pc : Int), (t'.en : Int), 0, 1, (o : Int), 0, 0, (t.f : Int), (t.kw : Int), 0, 0, 0, 0, 0, 0] rfl (by simp) b8 (lt 0)
  have b10 := st [2, 0, (t'.pc : Int), (t'.en : Int), 0, 1, (o : Int), 0, 0, (t.f : Int), (t.kw : Int), 0, 0, 0, 0, 0, 0] 9 ((t'.f : Int)) [2, 0, (t'.pc : Int), (t'.en : Int), 0, 1, (o : Int), 0, 0, (t'.f : Int), (t.kw : Int), 0, 0, 0, 0, 0, 0] rfl (by simp) b9 (t41)
  have b11 := st [2, 0, (t'.pc : Int), (t'.en : Int), 0, 1, (o : Int), 0, 0, (t'.f : Int), (t.kw : Int), 0, 0, 0, 0, 0, 0] 10 ((t'.kw : Int)) [2, 0, (t'.pc : Int), (t'.en : Int), 0, 1, (o : Int), 0, 0, (t'.f : Int), (t'.kw : Int), 0, 0, 0, 0, 0, 0] rfl (by simp) b10 (t42)
  have b12 := st [2, 0, (t'.pc : Int), (t'.en : Int), 0, 1, (o : Int), 0, 0, (t'.f : Int), (t'.kw : Int), 0, 0, 0, 0, 0, 0] 11 (0) [2, 0, (t'.pc : Int), (t'.en : Int), 0, 1, (o : Int), 0, 0, (t'.f : Int), (t'.kw : Int), 0, 0, 0, 0, 0, 0] rfl (by simp) b11 (lt 0)
  have b13 := st [2, 0, (t'.pc : Int), (t'.en : Int), 0, 1, (o : Int), 0, 0, (t'.f : Int), (t'.kw : Int), 0, 0, 0, 0, 0, 0] 12 (0) [2, 0, (t'.pc : Int), (t'.en : Int), 0, 1, (o : Int), 0, 0, (t'.f : Int), (t'.kw : Int), 0, 0, 0, 0, 0, 0] rfl (by simp) b12 (lt 0)
  have b14 := st [2, 0, (t'.pc : Int), (t'.en : Int), 0, 1, (o : Int), 0, 0, (t'.f : Int), (t'.kw : Int), 0, 0, 0, 0, 0, 0] 13 (0) [2, 0, (t'.pc : Int), (t'.en : Int), 0, 1, (o : Int), 0, 0, (t'.f : Int), (t'.kw : Int), 0, 0, 0, 0, 0, 0] rfl (by simp) b13 (lt 0)
  have b15 := st [2, 0, (t'.pc : Int), (t'.en : Int), 0, 1, (o : Int), 0, 0, (t'.f : Int), (t'.kw : Int), 0, 0, 0, 0, 0, 0] 14 (0) [2, 0, (t'.pc : Int), (t'.en : Int), 0, 1, (o : Int), 0, 0, (t'.f : Int), (t'.kw : Int), 0, 0, 0, 0, 0, 0] rfl (by simp) b14 (lt 0)
  have b16 := st [2, 0, (t'.pc : Int), (t'.en : Int), 0, 1, (o : Int), 0, 0, (t'.f : Int), (t'.kw : Int), 0, 0, 0, 0, 0, 0] 15 (0) [2, 0, (t'.pc : Int), (t'.en : Int), 0, 1, (o : Int), 0, 0, (t'.f : Int), (t'.kw : Int), 0, 0, 0, 0, 0, 0] rfl (by simp) b15 (lt 0)
  have b17 := st [2, 0, (t'.pc : Int), (t'.en : Int), 0, 1, (o : Int), 0, 0, (t'.f : Int), (t'.kw : Int), 0, 0, 0, 0, 0, 0] 16 (0) [2, 0, (t'.pc : Int), (t'.en : Int), 0, 1, (o : Int), 0, 0, (t'.f : Int), (t'.kw : Int), 0, 0, 0, 0, 0, 0] rfl (by simp) b16 (lt 0)
  exact b17
/-- the next state -/
theorem st_next : x.st (i + 1) = ⟨(x.aft i).2, (x.st i).ts.set (x.who i) (x.aft i).1, if (x.tk i).en = 0 then (x.st i).cnt + 1 else (x.st i).cnt⟩ := by
  unfold Nl.st
  rw [runB_succ]
  exact nxtB_some (tk_at h)
/-- where a round leads -/
def K2 (x : Nl) (L : List Int) (A : Option Addr) (len cap i : Nat) (o : LO) : Prop := match o with
  | .cont θ => ∃ i', i' ≤ 260 ∧ 260 - i' < 260 - i ∧ AgreeD θ (T2 true).b (roW A len cap) (x.σT i) Nb.Ωn (x.σT i') Nb.Ωn
  | .out θ => AgreeD θ (T2 false).b (roW A len cap) (x.σT i) Nb.Ωn (x.σE L) Nb.Ωn
omit h in
theorem agree_next (hi : i < 260) {θ : Sub} (h6 : θ.vAt 6 = .bin .add (v 6) (l 1)) (h18 : (θ.vAt 18).ev (x.σT i) = ((x.st (i + 1)).cnt : Int)) (hv : ∀ j, j ≠ 6 → j ≠ 18 → θ.vAt j = .var j)
    (h1 : LsRec (x.σT i) (θ.lAt 1) (recsT x.k (x.st (i + 1)).ts)) (h2 : LsRec (x.σT i) (θ.lAt 2) (one (natsI (x.st (i + 1)).g))) (hl : ∀ j, j ≠ 1 → j ≠ 2 → θ.lAt j = .lvar j) :
    AgreeD θ ⟨40, 5, 0, 100⟩ (roW A len cap) (x.σT i) Nb.Ωn (x.σT (i + 1)) Nb.Ωn := by
  refine agree_sgR (fun j p hp => by obtain rfl := roW_40 j p hp; exact ⟨by omega, LsRec.var' (by omega) rfl⟩) (by decide) (by decide) rfl (fun j hj => ?_) fun q hq => ?_
  · have hj : j < 40 := hj
    by_cases j6 : j = 6
    · subst j6
      rw [h6]
      show ((i + 1 : Nat) : Int) = IntKind.i64.wrap ((v 6).ev (x.σT i) + 1)
      rw [t6, i64_small (by omega) (by omega)]
      rfl
    · by_cases j18 : j = 18
      · subst j18
        rw [h18]
        rfl
      · rw [hv j j6 j18]
        show _ = sg _ _ j
        rw [sg_v (by omega)]
        unfold vT
        rw [List.getD_eq_getElem?_getD, List.getD_eq_getElem?_getD]
        match j, hj, j6, j18 with
        | 0, _, _, _ => rfl
        | 1, _, _, _ => rfl
        | 2, _, _, _ => rfl
        | 3, _, _, _ => rfl
        | 4, _, _, _ => rfl
        | 5, _, _, _ => rfl
        | 6, _, h, _ => exact absurd rfl h
        | 7, _, _, _ => rfl
        | 8, _, _, _ => rfl
        | 9, _, _, _ => rfl
        | 10, _, _, _ => rfl
        | 11, _, _, _ => rfl
        | 12, _, _, _ => rfl
        | 13, _, _, _ => rfl
        | 14, _, _, _ => rfl
        | 15, _, _, _ => rfl
        | 16, _, _, _ => rfl
        | 17, _, _, _ => rfl
        | 18, _, _, h => exact absurd rfl h
        | 19, _, _, _ => rfl
        | 20, _, _, _ => rfl
        | 21, _, _, _ => rfl
        | 22, _, _, _ => rfl
        | 23, _, _, _ => rfl
        | 24, _, _, _ => rfl
        | 25, _, _, _ => rfl
        | 26, _, _, _ => rfl
        | 27, _, _, _ => rfl
        | 28, _, _, _ => rfl
        | 29, _, _, _ => rfl
        | 30, _, _, _ => rfl
        | 31, _, _, _ => rfl
        | 32, _, _, _ => rfl
        | 33, _, _, _ => rfl
        | 34, _, _, _ => rfl
        | 35, _, _, _ => rfl
        | 36, _, _, _ => rfl
        | 37, _, _, _ => rfl
        | 38, _, _, _ => rfl
        | 39, _, _, _ => rfl
        | j + 40, h, _, _ => exact absurd h (by omega)
  · have hq : q < 5 := hq
    match q, hq with
    | 0, _ => rw [hl 0 (by omega) (by omega)]; exact LsRec.var' (by omega) rfl
    | 1, _ => exact h1
    | 2, _ => exact h2
    | 3, _ => rw [hl 3 (by omega) (by omega)]; exact LsRec.var' (by omega) rfl
    | 4, _ => rw [hl 4 (by omega) (by omega)]; exact LsRec.var' (by omega) rfl
    | q + 5, hq => exact absurd hq (by omega)
/-- a step's ways on -/
theorem round_st (hi : i < 260) {who : SE} {w : Nat} (hw : who.ev (x.σT i) = (w : Int)) (hww : w = x.who i) : RunL (x.σT i) (K2 x L A len cap i) (stT who) := by
  have hat := tk_at h (i := i)
  have hnx := st_next h (i := i)
  have hww' := hww
  subst hww'
  refine ⟨fun _ => ⟨fun h3 => ?_, fun h3 => ?_⟩, fun hne => ?_⟩
  · have h3 : ((at1 who 3).ev (x.σT i) == 0) = true := h3
    rw [at1_ev hw hat (by omega)] at h3
    have h3 : ((x.tk i).en : Int) = 0 := eq_of_beq h3
    have h0 : (x.tk i).en = 0 := by omega
    rw [if_pos h0] at hnx
    refine ⟨i + 1, by omega, by omega, agree_next hi rfl ?_ (fun j h6 h18 => ?_) ?_ ?_ (fun j h1 h2 => ?_)⟩
    · show (v 43).ev (x.σT i) = _
      rw [t43, hnx]
      rfl
    · unfold Sub.vAt
      rw [lookS_ne (fun h => h6 h.symm), lookS_ne (fun h => h18 h.symm)]
      rfl
    · rw [hnx]
      exact set_rec h hw rfl
    · rw [hnx]
      exact LsRec.var' (q := 6) (by omega) rfl
    · unfold Sub.lAt
      rw [lookS_ne (fun h => h1 h.symm), lookS_ne (fun h => h2 h.symm)]
      rfl
  · have h3 : ((at1 who 3).ev (x.σT i) == 0) = false := h3
    rw [at1_ev hw hat (by omega)] at h3
    have h3 : ((x.tk i).en : Int) ≠ 0 := beq_eq_false_iff_ne.1 h3
    have h0 : ¬ (x.tk i).en = 0 := by omega
    rw [if_neg h0] at hnx
    have haft : x.aft i = (x.tk i, (x.st i).g) := by
      unfold Nl.aft stepB
      rw [if_neg h0]
    rw [haft] at hnx
    have hts : (x.st i).ts.set (x.who i) (x.tk i) = (x.st i).ts := by
      apply List.ext_getElem?
      intro j
      rw [List.getElem?_set]
      by_cases hj : x.who i = j
      · subst hj
        rw [if_pos rfl, if_pos (List.getElem?_eq_some_iff.1 hat).1, hat]
      · rw [if_neg hj]
    rw [hts] at hnx
    refine ⟨i + 1, by omega, by omega, agree_next hi rfl ?_ (fun j h6 h18 => ?_) ?_ ?_ (fun j h1 h2 => ?_)⟩
    · show (v 18).ev (x.σT i) = _
      rw [t18, hnx]
    · unfold Sub.vAt
      rw [lookS_ne (fun h => h6 h.symm)]
      rfl
    · rw [hnx]
      exact LsRec.var' (q := 1) (by omega) rfl
    · rw [hnx]
      exact LsRec.var' (q := 2) (by omega) rfl
    · rfl
  · have hne : (who.ev (x.σT i) == (v 44).ev (x.σT i)) = false := hne
    rw [hw, t44] at hne
    simp at hne
theorem round_2 (hi : i ≤ 260) : RunL (x.σT i) (K2 x L A len cap i) D2 := by
  have e6 : (v 6).ev (x.σT i) = (i : Int) := t6
  refine ⟨fun h260 => ?_, fun h260 => ?_⟩
  · have hi : i < 260 := by
      have := of_decide_eq_true (show decide ((v 6).ev (x.σT i) < 260) = true from h260)
      rw [t6] at this
      omega
    have turn : ¬ (i < 60 ∧ i < x.whose.length) → RunL (x.σT i) (K2 x L A len cap i) (stT turnE) := fun hn => by
      refine round_st h hi (turn_ev) ?_
      unfold Nl.who whoN
      rw [if_neg hn]
    refine ⟨fun h60 => ⟨fun hln => ?_, fun hln => ?_⟩, fun h60 => ?_⟩
    · have h60 : i < 60 := by
        have := of_decide_eq_true (show decide ((v 6).ev (x.σT i) < 60) = true from h60)
        rw [t6] at this
        omega
      have hln : i < x.whose.length := by
        have := of_decide_eq_true (show decide ((v 6).ev (x.σT i) < (SE.len (.lvar 40)).ev (x.σT i)) = true from hln)
        rw [t6, whose_len] at this
        omega
      refine round_st h hi (b_ev h).1 ?_
      unfold Nl.who whoN
      rw [if_pos ⟨h60, hln⟩]
    · refine turn fun hc => ?_
      have := of_decide_eq_false (show decide ((v 6).ev (x.σT i) < (SE.len (.lvar 40)).ev (x.σT i)) = false from hln)
      rw [t6, whose_len] at this
      omega
    · refine turn fun hc => ?_
      have := of_decide_eq_false (show decide ((v 6).ev (x.σT i) < 60) = false from h60)
      rw [t6] at this
      omega
  · have hi : i = 260 := by
      have := of_decide_eq_false (show decide ((v 6).ev (x.σT i) < 260) = false from h260)
      rw [t6] at this
      omega
    subst hi
    show AgreeD _ ⟨40, 5, 0, 100⟩ _ _ _ _ _
    refine agree_sgR (fun j p hp => by obtain rfl := roW_40 j p hp; exact ⟨by omega, LsRec.var' (by omega) rfl⟩) (by decide) (by decide) rfl (fun j hj => ?_) fun q hq => ?_
    · have hj : j < 40 := hj
      rw [vAt_nil rfl]
      show x.vE j = sg _ _ j
      rw [sg_v (by omega)]
      unfold vE
      rw [if_pos hj]
    · have hq : q < 5 := hq
      rw [lAt_nil rfl]
      refine LsRec.var' (by omega) ?_
      unfold lE
      rw [if_pos hq]
variable (hwf : ∀ y ∈ x.whose, (Lit.int .i64 y).wf = true)
include hwf
theorem kcs_2 (hi : i ≤ 260) : KcAll [] [(40, .int .i64)] (roW A len cap) Try.prog (x.σT i) Nb.Ωn kcs2 := by
  have hn0 := h.n0
  have hn6 := h.n6
  have ht := turn_ev (x := x) (i := i)
  have hb := b_ev h (i := i)
  refine kcAll_cons (fun fs ok => ?_) (kcAll_cons (fun fs ok => ?_) (kcAll_cons (fun fs ok => ?_) (kcAll_cons (fun fs ok => ?_) (kcAll_cons (fun fs ok => ?_) kcAll_nil))))
  · letI N : Nums := nums [] [(40, .int .i64)] (roW A len cap) (x.σT i) Nb.Ωn fs ok
    refine kc_bring (x := x.whose.getD i 0) (n := (x.n : Int)) rfl rfl (by show Value.int .i64 ((SE.at (.lvar 40) (v 6) 0).ev (x.σT i)) = _; rw [whose_at]) (by show Value.int .i64 ((v 19).ev (x.σT i)) = _; rw [t19]) (by omega) (by omega) ?_ t47
    rw [List.getD_eq_getElem?_getD]
    cases hg : x.whose[i]? with
    | none => rfl
    | some y => exact hwf y (List.mem_of_getElem? hg)
  · exact kc_stepW h roW_40 hi ht (Nat.mod_lt _ hn0) fs ok
  · exact kc_doneW h roW_40 hi ht (Nat.mod_lt _ hn0) fs ok
  · exact kc_stepW h roW_40 hi hb.1 hb.2 fs ok
  · exact kc_doneW h roW_40 hi hb.1 hb.2 fs ok
end
end Nl
end Go.Proofs.Ytcbljokbechppaa.Ball
