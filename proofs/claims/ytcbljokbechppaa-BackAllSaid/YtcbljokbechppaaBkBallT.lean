import Derived.Test.YtcbljokbechppaaBkBallR
/-
  wainscotlaw23.BackAll: the readings, and the known steps. No condition.
-/
namespace Go.Proofs.Ytcbljokbechppaa.Ball
open Go Ex Mem See Fast Back
open Go.RowKit
/-! lists of records -/
section
variable {σ : Nat → Int} {g : List (List Int)} {L : SE}
/-- a field of a record is another number -/
theorem LsRec.setF {e x : SE} {i f : Nat} {y : Int} (h : LsRec σ L g) (he : e.ev σ = (i : Int)) (hx : x.ev σ = y) (hi : i < g.length) (hf : f < ((g[i]?).getD []).length) : LsRec σ (.lset L e f x) (g.set i (((g[i]?).getD []).set f y)) := by
  refine ⟨by simp only [SE.evN, h.len, List.length_set], fun a j hj => ?_⟩
  simp only [SE.evA, he, hx, Int.toNat_natCast]
  rw [h.at_ a j hj, List.getElem?_set]
  by_cases ha : i = a
  · subst ha
    rw [if_pos rfl, if_pos hi, Option.getD_some, List.getElem?_set]
    by_cases hj2 : f = j
    · subst hj2
      rw [if_pos ⟨rfl, rfl⟩, if_pos rfl, if_pos hf]
      rfl
    · rw [if_neg (fun hh => hj2 hh.2.symm), if_neg hj2]
  · rw [if_neg (fun hh => ha hh.1.symm), if_neg ha]
/-- a record more -/
theorem LsRec.snocR {r : SE} {x : List Int} (h : LsRec σ L g) (hr : ∀ j, j < 64 → r.evA σ 0 j = x[j]?.getD 0) : LsRec σ (.lsnoc L r) (g ++ [x]) := by
  refine ⟨by simp only [SE.evN, h.len, List.length_append, List.length_cons, List.length_nil], fun a j hj => ?_⟩
  simp only [SE.evA, h.len]
  by_cases ha : a = g.length
  · rw [if_pos ha, hr j hj, ha, List.getElem?_append_right (Nat.le_refl _), Nat.sub_self]
    rfl
  · rw [if_neg ha, h.at_ a j hj]
    by_cases hlt : a < g.length
    · rw [List.getElem?_append_left hlt]
    · rw [List.getElem?_eq_none (l := g) (i := a) (by omega), List.getElem?_eq_none (l := g ++ [x]) (i := a) (by rw [List.length_append, List.length_singleton]; omega)]
end
/-- a task's cells -/
def recT (o : Nat) (t : Tk) : List Int := [2, 0, t.pc, t.en, 0, 1, o, 0, 0, t.f, t.kw, 0, 0, 0, 0, 0, 0]
/-- all tasks -/
def recsT (k : Nat) (ts : List Tk) : List (List Int) := (List.range ts.length).map fun j => recT (objOf k j) (ts.getD j {})
theorem recsT_len (k : Nat) (ts : List Tk) : (recsT k ts).length = ts.length := by simp [recsT]
theorem recsT_at {k : Nat} {ts : List Tk} {j : Nat} {t : Tk} (h : ts[j]? = some t) : (recsT k ts)[j]? = some (recT (objOf k j) t) := by
  have hj := (List.getElem?_eq_some_iff.1 h).1
  unfold recsT
  rw [List.getElem?_map, List.getElem?_range hj]
  simp only [Option.map_some]
  rw [List.getD_eq_getElem?_getD, h]
  rfl
theorem recsT_set {k : Nat} {ts : List Tk} {j : Nat} {t : Tk} : (recsT k ts).set j (recT (objOf k j) t) = recsT k (ts.set j t) := by
  apply List.ext_getElem?
  intro i
  rw [List.getElem?_set]
  by_cases hij : j = i
  · subst hij
    rw [if_pos rfl, recsT_len]
    by_cases hj : j < ts.length
    · rw [if_pos hj, recsT_at (t := t) (by rw [List.getElem?_set_self hj])]
    · rw [if_neg hj, List.getElem?_eq_none (by rw [recsT_len, List.length_set]; omega)]
  · rw [if_neg hij]
    by_cases hi : i < ts.length
    · rw [recsT_at (List.getElem?_eq_getElem hi), recsT_at (t := ts[i]) (by rw [List.getElem?_set, if_neg hij, List.getElem?_eq_getElem hi])]
    · rw [List.getElem?_eq_none (by rw [recsT_len]; omega), List.getElem?_eq_none (by rw [recsT_len, List.length_set]; omega)]
/-- the law's numbers: objects less one, tasks, as they came in, whose -/
structure Nl where
  K : Nat
  n : Nat
  key : Nat
  r0 : Int
  r1 : Int
  whose : List Int
namespace Nl
def k (x : Nl) : Nat := x.K + 1
structure Ok (x : Nl) : Prop where
  K : x.K < 16
  n0 : 0 < x.n
  n6 : x.n ≤ 6
  nk : x.n ≤ x.k
  key : x.key < 18446744073709551616
def st (x : Nl) (i : Nat) : StB := runB x.k x.key x.n x.whose i
def who (x : Nl) (i : Nat) : Nat := whoN x.n x.whose i
/-- whose turn: the task -/
def tk (x : Nl) (i : Nat) : Tk := (x.st i).ts.getD (x.who i) {}
def aft (x : Nl) (i : Nat) : Tk × List Nat := stepB x.k x.key (x.st i).g (objOf x.k (x.who i)) (x.tk i)
/-- the numbers in the loop -/
def vT (x : Nl) (i : Nat) (q : Nat) : Int :=
  ([(x.K : Int), 0, 0, 0, x.key, 1, i] ++ List.replicate 10 0 ++ [(x.n : Int), ((x.st i).cnt : Int), x.n] ++ List.replicate 10 0 ++ [x.r0, x.r1, (x.n : Int) - 1, (x.k : Int) - x.n] ++ List.replicate 7 0 ++
    [((x.aft i).1.f : Int), (x.aft i).1.kw, (x.st i).cnt + 1, x.who i, objOf x.k (x.who i), 0, x.whose.getD i 0 % (x.n : Int), (x.aft i).1.pc, (x.aft i).1.en]).getD q 0
def lT (x : Nl) (i : Nat) (q : Nat) : List (List Int) :=
  if q = 0 then one (natsI (gB x.k x.key)) else if q = 1 then recsT x.k (x.st i).ts else if q = 2 then one (natsI (x.st i).g) else if q = 6 then one (natsI (x.aft i).2) else if q = 40 then one x.whose else []
def σT (x : Nl) (i : Nat) : Nat → Int := sg (x.vT i) (x.lT i)
section
variable {x : Nl} (h : x.Ok) {i : Nat}
theorem tev {q : Nat} (hq : q < 2048) : (v q).ev (x.σT i) = x.vT i q := by
  show sg (x.vT i) (x.lT i) q = _
  rw [sg_v hq]
theorem t0 : (v 0).ev (x.σT i) = (x.K : Int) := tev (by omega)
theorem t6 : (v 6).ev (x.σT i) = (i : Int) := tev (by omega)
theorem t18 : (v 18).ev (x.σT i) = ((x.st i).cnt : Int) := tev (by omega)
theorem t19 : (v 19).ev (x.σT i) = (x.n : Int) := tev (by omega)
theorem t43 : (v 43).ev (x.σT i) = ((x.st i).cnt + 1 : Int) := tev (by omega)
theorem t44 : (v 44).ev (x.σT i) = (x.who i : Int) := tev (by omega)
theorem t47 : (v 47).ev (x.σT i) = x.whose.getD i 0 % (x.n : Int) := tev (by omega)
include h
theorem k16 : 1 ≤ x.k ∧ x.k ≤ 16 := by
  have := h.K
  unfold Nl.k
  omega
theorem who_lt : x.who i < x.n := whoN_lt h.n0 i
theorem inv : ∃ L, Inv x.k x.key x.n (x.st i).g (x.st i).ts L := inv_run h.n0 h.nk (k16 h).2 i
theorem tk_at : (x.st i).ts[x.who i]? = some (x.tk i) := by
  obtain ⟨L, hI⟩ := inv h (i := i)
  have := who_lt h (i := i)
  have hl : x.who i < (x.st i).ts.length := by rw [hI.len]; exact this
  unfold Nl.tk
  rw [List.getD_eq_getElem?_getD, List.getElem?_eq_getElem hl]
  rfl
/-- the step's surroundings -/
def sb (x : Nl) (i : Nat) : Sb := ⟨x.K, x.key, (x.st i).cnt, objOf x.k (x.who i), x.tk i, (x.st i).g, fun q => if q = 7 then one (natsI (gB x.k x.key)) else x.lT i q⟩
theorem sb_ok (hi : i ≤ 260) : (sb x i).Ok := by
  obtain ⟨L, hI⟩ := inv h (i := i)
  have hk := k16 h
  have hat := tk_at h (i := i)
  have hw := who_lt h (i := i)
  have hnk := h.nk
  have hfst := fst_in hI.slab.bd
  refine ⟨h.K, h.key, ?_, ?_, hI.slab.len, hI.en _ _ hat, fun he => hI.live _ _ hat he, ?_, fun he => ?_⟩
  · have : (x.st i).cnt ≤ 1 + i := cnt_run i
    show (x.st i).cnt < 1000
    omega
  · show objOf x.k (x.who i) ≤ x.K
    unfold objOf Nl.k
    omega
  · have := hI.slab.f1
    show at_ (x.st i).g 12 ≤ x.k
    omega
  · have hlt := hI.lt h.nk hat he
    exact ⟨x.k - L.length, by omega, by show x.k - L.length ≤ x.k; omega, hI.slab.cnt⟩
omit h in
/-- a field of a task -/
theorem at1_ev {who : SE} {w f : Nat} {t : Tk} (hw : who.ev (x.σT i) = (w : Int)) (hat : (x.st i).ts[w]? = some t) (hf : f < 17) : (at1 who f).ev (x.σT i) = (recT (objOf x.k w) t).getD f 0 := by
  show sg (x.vT i) (x.lT i) (lc 1 (who.ev (x.σT i)).toNat f) = _
  rw [hw, Int.toNat_natCast, sg_lc (by omega) (by omega)]
  show (((recsT x.k (x.st i).ts)[w]?).getD [])[f]?.getD 0 = _
  rw [recsT_at hat, Option.getD_some, List.getD_eq_getElem?_getD]
omit h in
theorem lookS_lits {x : Nat → Int} {m : Nat} : ∀ {a i : Nat}, lookS i ((List.range' a m).map fun j => (j, SE.lit (x j))) = if a ≤ i ∧ i < a + m then some (.lit (x i)) else none := by
  induction m with
  | zero => intro a i; rw [if_neg (by omega)]; rfl
  | succ m ih =>
    intro a i
    rw [List.range'_succ, List.map_cons]
    by_cases hai : a = i
    · subst hai
      rw [lookS_eq, if_pos (by omega)]
    · rw [lookS_ne hai, ih]
      by_cases h1 : a ≤ i ∧ i < a + (m + 1)
      · rw [if_pos h1, if_pos (by omega)]
      · rw [if_neg h1, if_neg (by omega)]
/-- numbers that a step does not look at, as they are -/
def lits (x : Nl) (i : Nat) : List (Nat × SE) := (1, .lit 0) :: (List.range' 5 45).map fun j => (j, .lit (x.vT i j))
def thX (x : Nl) (i : Nat) (a : SW) : Sub := { v := (a.th 45 48 49 41 42 43 6).v ++ lits x i, l := [(6, a.to.2.2.2.2), (0, .lvar 7), (2, .lvar 0)] }
variable {a : SW}
omit h in
/-- what persists in a step's reading -/
theorem thX_at {j : Nat} (hj : 5 ≤ j) (hj2 : j < 50) (h41 : j ≠ 41) (h42 : j ≠ 42) (h43 : j ≠ 43) (h45 : j ≠ 45) (h48 : j ≠ 48) (h49 : j ≠ 49) : (thX x i a).vAt j = .lit (x.vT i j) := by
  unfold thX Sub.vAt
  simp only [SW.th, List.cons_append, List.nil_append]
  rw [lookS_ne (by omega), lookS_ne (by omega), lookS_ne (by omega), lookS_ne (by omega), lookS_ne (by omega), lookS_ne (by omega)]
  unfold lits
  rw [lookS_ne (by omega), lookS_lits, if_pos (by omega)]
omit h in
theorem thX_lo {j : Nat} (hj : j < 5) (h1 : j ≠ 1) : (thX x i a).vAt j = .var j := by
  unfold thX Sub.vAt
  simp only [SW.th, List.cons_append, List.nil_append]
  rw [lookS_ne (by omega), lookS_ne (by omega), lookS_ne (by omega), lookS_ne (by omega), lookS_ne (by omega), lookS_ne (by omega)]
  unfold lits
  rw [lookS_ne (by omega), lookS_lits, if_neg (by omega)]
/-- what is known behind a step, as it is in the loop's reading -/
theorem agree_step (hi : i ≤ 260) (he : (x.tk i).en = 0) {ro : Nat → Option (Option Addr × Nat × Nat)} (hro : ∀ i p, ro i = some p → i = 40) :
    AgreeD (thX x i (sb x i).way) ⟨50, 7, 0, rel⟩ ro (sb x i).σB Nb.Ωn (x.σT i) Nb.Ωn := by
  obtain ⟨e1, e2, e3, e4, e5⟩ := Sb.to_ok (sb_ok h hi) he
  have hsb : (sb x i).aft = x.aft i := rfl
  rw [hsb] at e1 e2 e3 e4 e5
  refine agree_sgR (fun j p hp => by obtain rfl := hro j p hp; exact ⟨by omega, LsRec.var' (by omega) rfl⟩) (by decide) (by decide) rfl (fun j hj => ?_) fun q hq => ?_
  · have hj : j < 50 := hj
    by_cases h5 : j < 5
    · by_cases h1 : j = 1
      · subst h1; rfl
      · rw [thX_lo h5 h1]
        show _ = sg _ _ j
        rw [sg_v (by omega)]
        match j, h5, h1 with
        | 0, _, _ => rfl
        | 1, _, h1 => exact absurd rfl h1
        | 2, _, _ => rfl
        | 3, _, _ => rfl
        | 4, _, _ => rfl
        | j + 5, h5, _ => exact absurd h5 (by omega)
    · by_cases h41 : j = 41
      · subst h41; exact e3.symm
      · by_cases h42 : j = 42
        · subst h42; exact e4.symm
        · by_cases h43 : j = 43
          · subst h43
            show ((x.st i).cnt + 1 : Int) = IntKind.i64.wrap ((v 5).ev (sb x i).σB + 1)
            have hc := (sb_ok h hi).cnt
            rw [Sb.x5, i64_small (by omega) (by omega)]
            rfl
          · by_cases h45 : j = 45
            · subst h45; exact (Sb.x1 (s := sb x i)).symm
            · by_cases h48 : j = 48
              · subst h48; exact e1.symm
              · by_cases h49 : j = 49
                · subst h49; exact e2.symm
                · rw [thX_at (by omega) hj h41 h42 h43 h45 h48 h49]
                  rfl
  · have hq : q < 7 := hq
    match q, hq with
    | 0, _ => exact LsRec.var' (q := 7) (by omega) rfl
    | 1, _ => exact LsRec.var' (q := 1) (by omega) rfl
    | 2, _ => exact LsRec.var' (q := 0) (by omega) rfl
    | 3, _ => exact LsRec.var' (q := 3) (by omega) rfl
    | 4, _ => exact LsRec.var' (q := 4) (by omega) rfl
    | 5, _ => exact LsRec.var' (q := 5) (by omega) rfl
    | 6, _ => exact e5
    | q + 7, hq => exact absurd hq (by omega)
def th0 (who : SE) : Sub := { v := [(1, at1 who 6), (6, at1 who 2), (7, at1 who 3), (8, at1 who 9), (9, at1 who 10), (5, v 18)], l := [(0, .lvar 2)] }
/-- what a step sees, out of the loop's reading -/
theorem agree_th0 (hi : i ≤ 260) {who : SE} (hw : who.ev (x.σT i) = (x.who i : Int)) {ro : Nat → Option (Option Addr × Nat × Nat)} (hro : ∀ i p, ro i = some p → i = 40) :
    AgreeD (th0 who) ⟨10, 1, 0, 2⟩ ro (x.σT i) Nb.Ωn (sb x i).σB Nb.Ωn := by
  have hat := tk_at h (i := i)
  have f : ∀ {f : Nat}, f < 17 → (at1 who f).ev (x.σT i) = (recT (objOf x.k (x.who i)) (x.tk i)).getD f 0 := fun hf => at1_ev hw hat hf
  refine agree_sgR (fun j p hp => by obtain rfl := hro j p hp; exact ⟨by omega, LsRec.var' (by omega) rfl⟩) (by decide) (by decide) rfl (fun j hj => ?_) fun q hq => ?_
  · have hj : j < 10 := hj
    match j, hj with
    | 0, _ => exact t0.symm
    | 1, _ => exact (f (f := 6) (by omega)).symm
    | 2, _ => exact (tev (q := 2) (by omega)).symm
    | 3, _ => exact (tev (q := 3) (by omega)).symm
    | 4, _ => exact (tev (q := 4) (by omega)).symm
    | 5, _ => exact t18.symm
    | 6, _ => exact (f (f := 2) (by omega)).symm
    | 7, _ => exact (f (f := 3) (by omega)).symm
    | 8, _ => exact (f (f := 9) (by omega)).symm
    | 9, _ => exact (f (f := 10) (by omega)).symm
    | j + 10, hj => exact absurd hj (by omega)
  · obtain rfl : q = 0 := by have : q < 1 := hq; omega
    exact LsRec.var' (q := 2) (by omega) rfl
def thD (x : Nl) (i : Nat) : Sub := { v := (18, v 5) :: lits x i, l := [(2, .lvar 0), (0, .lvar 7)] }
omit h in
/-- what is known behind a step of a task that is done -/
theorem agree_done (_hi : i ≤ 260) {ro : Nat → Option (Option Addr × Nat × Nat)} (hro : ∀ i p, ro i = some p → i = 40) :
    AgreeD (thD x i) ⟨19, 3, 0, rel⟩ ro (sb x i).σB Nb.Ωn (x.σT i) Nb.Ωn := by
  refine agree_sgR (fun j p hp => by obtain rfl := hro j p hp; exact ⟨by omega, LsRec.var' (by omega) rfl⟩) (by decide) (by decide) rfl (fun j hj => ?_) fun q hq => ?_
  · have hj : j < 19 := hj
    by_cases h18 : j = 18
    · subst h18
      exact (Sb.x5 (s := sb x i)).symm
    · by_cases h1 : j = 1
      · subst h1; rfl
      · unfold thD Sub.vAt
        rw [lookS_ne (fun h => h18 h.symm)]
        unfold lits
        rw [lookS_ne (fun h => h1 h.symm), lookS_lits]
        by_cases h5 : 5 ≤ j
        · rw [if_pos (by omega)]
          rfl
        · rw [if_neg (by omega)]
          show _ = sg _ _ j
          rw [sg_v (by omega)]
          match j, h5, h1 with
          | 0, _, _ => rfl
          | 1, _, h1 => exact absurd rfl h1
          | 2, _, _ => rfl
          | 3, _, _ => rfl
          | 4, _, _ => rfl
          | j + 5, h5, _ => exact absurd h5 (by omega)
  · have hq : q < 3 := hq
    match q, hq with
    | 0, _ => exact LsRec.var' (q := 7) (by omega) rfl
    | 1, _ => exact LsRec.var' (q := 1) (by omega) rfl
    | 2, _ => exact LsRec.var' (q := 0) (by omega) rfl
    | q + 3, hq => exact absurd hq (by omega)
omit h in
theorem end_run (ha : a ≠ .done) : a.end_ = kcS0.leaf (a.th 20 21 22 23 24 25 1) := by
  cases a <;> first | rfl | exact absurd rfl ha
variable {rks : List (Nat × CK)} {ro : Nat → Option (Option Addr × Nat × Nat)} (hro : ∀ i p, ro i = some p → i = 40)
include hro
theorem kc_stepW (hi : i ≤ 260) {who : SE} {w : Nat} (hw : who.ev (x.σT i) = (w : Int)) (hwn : w < x.n) (fs) (ok : ∀ f ∈ fs, f.1.ev (x.σT i) = f.2) : @KcOk (nums [] rks ro (x.σT i) Nb.Ωn fs ok) Try.prog (kcStepW who) := by
  by_cases hc : w = x.who i ∧ (x.tk i).en = 0
  · obtain ⟨rfl, he⟩ := hc
    have hS := sb_ok h hi
    have hnd : (sb x i).way ≠ .done := fun hd => by
      have := Sb.way_is hS
      rw [hd] at this
      have this : (x.tk i).en = 1 := this
      omega
    have hrun := runSW rks (sb x i).way
    rw [end_run hnd] at hrun
    have e1 : (kcStepW who).pre = subH (th0 who) TP.heap := rfl
    have e2 : (kcStepW who).args = AV.subs (th0 who) argP := rfl
    have e3 : (kcStepW who).post.map (·.1) = TP.heap.map (·.1) := rfl
    have e4 : kcForm (kcStepW who) TP.heap ⟨10, 1, 0, 2⟩ argP = true := rfl
    refine kc_tree (σ1 := (sb x i).σB) (Ω1 := Nb.Ωn) (A := argP) (pre := TP.heap) (B0 := ⟨10, 1, 0, 2⟩) (θ0 := th0 who) (kcs := (sb x i).way.kcs) (lns := []) (n := 30)
      (d := kcS0.leaf ((sb x i).way.th 20 21 22 23 24 25 1)) (fs1 := (sb x i).way.fx) Back.mixed fn_step e1 e2 rfl e3 e4 (Sb.kcs_step hS) lnAll_nil (Sb.facts_X hS) hrun (agree_th0 h hi hw hro) ?_ fs ok
    exact ⟨thX x i (sb x i).way, ⟨50, 7, 0, rel⟩, by kernel_rfl, by kernel_rfl, by kernel_rfl, agree_step h hi he hro⟩
  · intro hcs
    exfalso
    apply hc
    have hat : (x.st i).ts[w]? = some ((x.st i).ts.getD w {}) := by
      obtain ⟨L, hI⟩ := inv h (i := i)
      have hl : w < (x.st i).ts.length := by rw [hI.len]; exact hwn
      rw [List.getD_eq_getElem?_getD, List.getElem?_eq_getElem hl]
      rfl
    have h1 : (Cnd.eq who (v 44)).ev (x.σT i) = true := hcs (.eq who (v 44), true) (by unfold kcStepW kcStep; simp)
    have h2 : (Cnd.eq (at1 who 3) (l 0)).ev (x.σT i) = true := hcs (.eq (at1 who 3) (l 0), true) (by unfold kcStepW kcStep; simp)
    have h1 : (who.ev (x.σT i) == (v 44).ev (x.σT i)) = true := h1
    have h2 : ((at1 who 3).ev (x.σT i) == 0) = true := h2
    rw [hw, t44] at h1
    rw [at1_ev hw hat (by omega)] at h2
    have h1 := eq_of_beq h1
    have h2 : ((((x.st i).ts.getD w {}).en : Nat) : Int) = 0 := eq_of_beq h2
    have e : w = x.who i := by omega
    subst e
    exact ⟨rfl, by unfold Nl.tk; omega⟩
theorem kc_doneW (hi : i ≤ 260) {who : SE} {w : Nat} (hw : who.ev (x.σT i) = (w : Int)) (hwn : w < x.n) (fs) (ok : ∀ f ∈ fs, f.1.ev (x.σT i) = f.2) : @KcOk (nums [] rks ro (x.σT i) Nb.Ωn fs ok) Try.prog (kcDoneW who) := by
  by_cases hc : w = x.who i ∧ (x.tk i).en ≠ 0
  · obtain ⟨rfl, he⟩ := hc
    have hS := sb_ok h hi
    have hd : (sb x i).way = .done := by
      unfold Sb.way
      rw [if_neg (show ¬ (sb x i).t.en = 0 from he)]
    have hrun := runSW rks (sb x i).way
    have hk1 := Sb.kcs_step hS (rks := rks) (ro := ro)
    have hf1 := Sb.facts_X hS
    rw [hd] at hrun hk1 hf1
    have e1 : (kcDoneW who).pre = subH (th0 who) TP.heap := rfl
    have e2 : (kcDoneW who).args = AV.subs (th0 who) argP := rfl
    have e3 : (kcDoneW who).post.map (·.1) = TP.heap.map (·.1) := rfl
    have e4 : kcForm (kcDoneW who) TP.heap ⟨10, 1, 0, 2⟩ argP = true := rfl
    refine kc_tree (σ1 := (sb x i).σB) (Ω1 := Nb.Ωn) (A := argP) (pre := TP.heap) (B0 := ⟨10, 1, 0, 2⟩) (θ0 := th0 who) (kcs := SW.kcs .done) (lns := []) (n := 30)
      (d := kcD0.leaf {}) (fs1 := SW.fx .done) Back.mixed fn_step e1 e2 rfl e3 e4 hk1 lnAll_nil hf1 hrun (agree_th0 h hi hw hro) ?_ fs ok
    exact ⟨thD x i, ⟨19, 3, 0, rel⟩, by kernel_rfl, by kernel_rfl, by kernel_rfl, agree_done hi hro⟩
  · intro hcs
    exfalso
    apply hc
    have hat : (x.st i).ts[w]? = some ((x.st i).ts.getD w {}) := by
      obtain ⟨L, hI⟩ := inv h (i := i)
      have hl : w < (x.st i).ts.length := by rw [hI.len]; exact hwn
      rw [List.getD_eq_getElem?_getD, List.getElem?_eq_getElem hl]
      rfl
    have h1 : (Cnd.eq who (v 44)).ev (x.σT i) = true := hcs (.eq who (v 44), true) (by unfold kcDoneW kcDone; simp)
    have h2 : (Cnd.eq (at1 who 3) (l 0)).ev (x.σT i) = false := hcs (.eq (at1 who 3) (l 0), false) (by unfold kcDoneW kcDone; simp)
    have h1 : (who.ev (x.σT i) == (v 44).ev (x.σT i)) = true := h1
    have h2 : ((at1 who 3).ev (x.σT i) == 0) = false := h2
    rw [hw, t44] at h1
    rw [at1_ev hw hat (by omega)] at h2
    have h1 := eq_of_beq h1
    have h2 : ((((x.st i).ts.getD w {}).en : Nat) : Int) ≠ 0 := beq_eq_false_iff_ne.1 h2
    have e : w = x.who i := by omega
    subst e
    exact ⟨rfl, by unfold Nl.tk; omega⟩
end
end Nl
end Go.Proofs.Ytcbljokbechppaa.Ball
