import Derived.Test.YtcbljokbechppaaGreatDoorBkFilU
import Derived.Test.YtcbljokbechppaaGreatDoorBkFilG
import Derived.Test.YtcbljokbechppaaGreatDoorBkFilRe
import Derived.Test.YtcbljokbechppaaGreatDoorBk8
/-
  wainscotlaw24.FillApart: its calls, its last loops, and the whole. No condition.
-/
namespace Go.Proofs.YtcbljokbechppaaGreatDoor.Fil
open Go Ex Mem See
open Go.RowKit Go.ChangeShapes
namespace Nf
attribute [local irreducible] runF
structure Ok2 (x : Nf) : Prop extends x.Ok where
  w0 : (Lit.int .i64 x.r0).wf = true
  w1 : (Lit.int .i64 x.r1).wf = true
  e0 : x.r0 % 6 = (x.n : Int) - 1
  e1 : x.r1 % 7 = (x.k : Int)
  wf : ∀ y ∈ x.whose, (Lit.int .i64 y).wf = true
/-- how many of the first ones were given something -/
def got (x : Nf) (i : Nat) : Nat := ((x.st 500).ps.take i).countP Ph.isFin
def v4 (x : Nf) (i q : Nat) : Int := if q = 17 then i else if q = 21 then x.got i else if q = 130 then i else if q = 131 then x.got i + 1 else if q = 132 then x.got i else x.vE q
def σ4 (x : Nf) (i : Nat) : Nat → Int := sg (x.v4 i) x.lE
def v5 (x : Nf) (i j q : Nat) : Int := if q = 130 then j else x.v4 i q
def σ5 (x : Nf) (i j : Nat) : Nat → Int := sg (x.v5 i j) x.lE
section
variable {x : Nf} (h : x.Ok2) {i j : Nat} {A : Option Addr} {len cap : Nat}
theorem ev4 {q : Nat} (hq : q < 2048) : (v q).ev (x.σ4 i) = x.v4 i q := by
  show sg (x.v4 i) x.lE q = _
  rw [sg_v hq]
theorem ev5 {q : Nat} (hq : q < 2048) : (v q).ev (x.σ5 i j) = x.v5 i j q := by
  show sg (x.v5 i j) x.lE q = _
  rw [sg_v hq]
theorem a17 : (v 17).ev (x.σ4 i) = (i : Int) := by rw [ev4 (by omega)]; rfl
theorem a21 : (v 21).ev (x.σ4 i) = (x.got i : Int) := by rw [ev4 (by omega)]; rfl
theorem a131 : (v 131).ev (x.σ4 i) = (x.got i + 1 : Int) := by rw [ev4 (by omega)]; rfl
theorem a132 : (v 132).ev (x.σ4 i) = (x.got i : Int) := by rw [ev4 (by omega)]; rfl
theorem b17 : (v 17).ev (x.σ5 i j) = (i : Int) := by rw [ev5 (by omega)]; rfl
theorem b130 : (v 130).ev (x.σ5 i j) = (j : Int) := by rw [ev5 (by omega)]; rfl
theorem lE_1 : x.lE 1 = recsF x.k (x.st 500).ps := by
  unfold lE lT
  rw [if_pos (show 1 < 5 by omega), if_pos rfl]
theorem at1_4 {who : SE} {w f : Nat} {p : Ph} (hw : who.ev (x.σ4 i) = (w : Int)) (hat : (x.st 500).ps[w]? = some p) (hf : f < 17) : (at1 who f).ev (x.σ4 i) = (recP x.k w p).getD f 0 := by
  show sg (x.v4 i) x.lE (lc 1 (who.ev (x.σ4 i)).toNat f) = _
  rw [hw, Int.toNat_natCast, sg_lc (by omega) (by omega), lE_1, recsF_at hat, Option.getD_some, List.getD_eq_getElem?_getD]
theorem at1_5 {who : SE} {w f : Nat} {p : Ph} (hw : who.ev (x.σ5 i j) = (w : Int)) (hat : (x.st 500).ps[w]? = some p) (hf : f < 17) : (at1 who f).ev (x.σ5 i j) = (recP x.k w p).getD f 0 := by
  show sg (x.v5 i j) x.lE (lc 1 (who.ev (x.σ5 i j)).toNat f) = _
  rw [hw, Int.toNat_natCast, sg_lc (by omega) (by omega), lE_1, recsF_at hat, Option.getD_some, List.getD_eq_getElem?_getD]
include h
theorem len4 : (SE.len (.lvar 1)).ev (x.σ4 i) = (x.n : Int) := by
  show ((x.σ4 i (ln 1)).toNat : Int) = _
  unfold σ4
  rw [sg_ln (by omega), lE_1, recsF_len, (inv h.toOk).len]
  rfl
theorem len5 : (SE.len (.lvar 1)).ev (x.σ5 i j) = (x.n : Int) := by
  show ((x.σ5 i j (ln 1)).toNat : Int) = _
  unfold σ5
  rw [sg_ln (by omega), lE_1, recsF_len, (inv h.toOk).len]
  rfl
theorem end_ : (x.st 500).m.tk = min x.n x.k ∧ (x.st 500).m.lk = 0 ∧ (x.st 500).ps.countP Ph.isFin = min x.n x.k := run_end h.n0 h.n6
theorem idle_ {p : Ph} (hp : (x.st 500).ps[j]? = some p) : p.idle = true := run_idle h.n0 h.n6 j p hp
theorem got_n : x.got x.n = min x.n x.k := by
  unfold got
  rw [List.take_of_length_le (by rw [(inv h.toOk).len]; exact Nat.le_refl _)]
  exact (end_ h).2.2
omit h in
theorem got_le : x.got i ≤ i := by
  unfold got
  have h1 := List.countP_le_length (p := Ph.isFin) (l := (x.st 500).ps.take i)
  have h2 := List.length_take (i := i) (l := (x.st 500).ps)
  omega
omit h in
theorem got_succ {p : Ph} (hp : (x.st 500).ps[i]? = some p) : x.got (i + 1) = x.got i + if p.isFin then 1 else 0 := by
  have hl := (List.getElem?_eq_some_iff.1 hp).1
  have he := (List.getElem?_eq_some_iff.1 hp).2
  unfold got
  rw [List.take_succ_eq_append_getElem hl, List.countP_append, he, List.countP_singleton]
/-! the loop of those before -/
theorem lns_5 (hi : i < x.n) (g : Bool) (fs) (ok : ∀ q ∈ fs, q.1.ev (x.σ4 i) = q.2) (c : Code) (hc : c ∈ loopsOf (bodyOf Tryz.prog 5)) (hck : loopId c = some (L5 x.n x.k g).key) :
    @LnOk (nums FillTab.gs rk40 (roW A len cap) (x.σ4 i) Ωn fs ok) Tryz.prog (ntOf Tryz.prog 5) c (L5 x.n x.k g) := by
  have hI := inv h.toOk (i := 500)
  have h6 := h.n6
  have hrun : run5g x.n x.k g = true := by
    have := run5_ok x.n x.k h.n0 h.n6 h.k6
    unfold run5 at this
    rw [Bool.and_eq_true] at this
    cases g
    · exact this.2
    · exact this.1
  have at_ : ∀ {w : Nat}, w < x.n → ∃ p, (x.st 500).ps[w]? = some p := fun hw => ⟨_, List.getElem?_eq_getElem (by rw [hI.len]; exact hw)⟩
  refine ln_ok FillTab.gs rk40 (roW A len cap) mixed (f := 5) (l := L5 x.n x.k g) (h0 := hrun) (by kernel_rfl) (by cases g <;> rfl) rfl (by cases g <;> rfl) (fun j => j ≤ i) (fun j => i - j) (x.σ5 i) (fun _ => Ωn) (fun j hj q hq => ?_)
    (fun _ _ => kcAll_nil) (fun _ _ => lnAll_nil) 0 (Nat.zero_le _) ?_ (fun j hj => ?_) fs ok c hc hck
  · simp only [f5, List.append_assoc, List.mem_append, List.mem_singleton] at hq
    rcases hq with hq | hq | rfl
    · exact rng_ok b130 (by omega) (by omega) q hq
    · exact rng_ok b17 (by omega) (by omega) q hq
    · exact eq_t (len5 h) (y := (x.n : Int)) rfl rfl
  · show AgreeD _ ⟨133, 3, 0, 3300⟩ _ _ _ _ _
    refine agree_sgR (fun j p hp => by obtain rfl := roW_40 j p hp; exact ⟨by omega, LsRec.var' (by omega) rfl⟩) (by decide) (by decide) rfl (fun q hq => ?_) fun q hq => ?_
    · have hq : q < 133 := hq
      by_cases q0 : q = 130
      · subst q0; rfl
      · have e5 : x.v5 i 0 q = x.v4 i q := by unfold v5; rw [if_neg q0]
        rw [e5]
        have e4 : (v q).ev (x.σ4 i) = x.v4 i q := ev4 (by omega)
        cases g with
        | true =>
          by_cases q1 : q = 131
          · subst q1
            show x.v4 i 131 = IntKind.i64.wrap ((v 21).ev (x.σ4 i) + 1)
            have := got_le (x := x) (i := i)
            rw [a21, i64_small (by omega) (by omega)]
            rfl
          · have : (L5 x.n x.k true).th.vAt q = .var q := by
              rw [vAt_ne (j := 130) (e := l 0) (r := [(131, .bin .add (v 21) (l 1))]) rfl (fun h => q0 h.symm), vAt_ne (j := 131) (r := []) rfl (fun h => q1 h.symm), vAt_nil rfl]
            rw [this]
            exact e4.symm
        | false =>
          by_cases q1 : q = 132
          · subst q1
            exact a21.symm
          · have : (L5 x.n x.k false).th.vAt q = .var q := by
              rw [vAt_ne (j := 130) (e := l 0) (r := [(132, v 21)]) rfl (fun h => q0 h.symm), vAt_ne (j := 132) (r := []) rfl (fun h => q1 h.symm), vAt_nil rfl]
            rw [this]
            exact e4.symm
    · rw [lAt_nil rfl]
      exact LsRec.var (by have : q < 3 := hq; omega)
  · have cont : j < i → RunL (x.σ5 i j) (fun o => match o with
        | .cont θ => ∃ j', j' ≤ i ∧ i - j' < i - j ∧ AgreeD θ (L5 x.n x.k g).t.b (roW A len cap) (x.σ5 i j) Ωn (x.σ5 i j') Ωn
        | .out θ => AgreeD θ (L5 x.n x.k g).post.b (roW A len cap) (x.σ5 i j) Ωn (x.σ4 i) Ωn) cont5 := fun hji => by
      refine ⟨j + 1, by omega, by omega, ?_⟩
      show AgreeD _ ⟨133, 3, 0, 3300⟩ _ _ _ _ _
      refine agree_sgR (fun j p hp => by obtain rfl := roW_40 j p hp; exact ⟨by omega, LsRec.var' (by omega) rfl⟩) (by decide) (by decide) rfl (fun q hq => ?_) fun q hq => ?_
      · have hq : q < 133 := hq
        by_cases q0 : q = 130
        · subst q0
          show ((j + 1 : Nat) : Int) = IntKind.i64.wrap ((v 130).ev (x.σ5 i j) + 1)
          rw [b130, i64_small (by omega) (by omega)]
          rfl
        · rw [vAt_ne (j := 130) (r := []) rfl (fun h => q0 h.symm), vAt_nil rfl]
          show _ = (v q).ev (x.σ5 i j)
          rw [ev5 (by omega)]
          unfold v5
          rw [if_neg q0, if_neg q0]
      · rw [lAt_nil rfl]
        exact LsRec.var (by have : q < 3 := hq; omega)
    refine ⟨fun hlt => ?_, fun hge => ?_⟩
    · have hlt : j < i := by
        have := of_decide_eq_true (show decide ((v 130).ev (x.σ5 i j) < (v 17).ev (x.σ5 i j)) = true from hlt)
        rw [b130, b17] at this
        omega
      refine ⟨fun h3 => ⟨fun h4 => ⟨fun h5 => ?_, fun _ => cont hlt⟩, fun _ => cont hlt⟩, fun _ => cont hlt⟩
      -- two that were given the same slab
      obtain ⟨p, hp⟩ := at_ hi
      obtain ⟨p', hp'⟩ := at_ (show j < x.n by omega)
      have h3 : ((at1 (v 17) 3).ev (x.σ5 i j) == 1) = true := h3
      have h4 : ((at1 (v 130) 3).ev (x.σ5 i j) == 1) = true := h4
      have h5 : ((at1 (v 17) 5).ev (x.σ5 i j) == (at1 (v 130) 5).ev (x.σ5 i j)) = true := h5
      rw [at1_5 b17 hp (by omega)] at h3
      rw [at1_5 b130 hp' (by omega)] at h4
      rw [at1_5 b17 hp (by omega), at1_5 b130 hp' (by omega)] at h5
      have i1 := idle_ h hp
      have i2 := idle_ h hp'
      cases p with
      | fin s =>
        cases p' with
        | fin s' =>
          have h5 : (s : Int) = s' := eq_of_beq h5
          have hs : s = s' := by omega
          subst hs
          have := hI.apart i j (.fin s) (.fin s) s hp hp' rfl rfl
          omega
        | page => cases h4
        | _ => cases i2
      | page => cases h3
      | _ => cases i1
    · have hji : j = i := by
        have := of_decide_eq_false (show decide ((v 130).ev (x.σ5 i j) < (v 17).ev (x.σ5 i j)) = false from hge)
        rw [b130, b17] at this
        omega
      show AgreeD _ ⟨133, 3, 0, 3300⟩ _ _ _ _ _
      refine agree_sgR (fun j p hp => by obtain rfl := roW_40 j p hp; exact ⟨by omega, LsRec.var' (by omega) rfl⟩) (by decide) (by decide) rfl (fun q hq => ?_) fun q hq => ?_
      · have hq : q < 133 := hq
        rw [vAt_nil rfl]
        show x.v4 i q = (v q).ev (x.σ5 i j)
        rw [ev5 (by omega)]
        unfold v5
        by_cases q0 : q = 130
        · subst q0
          rw [if_pos rfl, hji]
          rfl
        · rw [if_neg q0]
      · rw [lAt_nil rfl]
        exact LsRec.var (by have : q < 3 := hq; omega)
theorem core_at (hi : i < x.n) {p : Ph} (hp : (x.st 500).ps[i]? = some p) : (v (100 + 4 * i)).ev (x.σ4 i) = (slotF p).slab := by
  have h6 := h.n6
  rw [ev4 (by omega)]
  unfold v4
  rw [if_neg (by omega), if_neg (by omega), if_neg (by omega), if_neg (by omega), if_neg (by omega)]
  unfold vE
  rw [if_neg (by omega), if_neg (by omega)]
  unfold coreN
  rw [if_pos (by omega), show (100 + 4 * i - 100) / 4 = i by omega, show (100 + 4 * i - 100) % 4 = 0 by omega, List.getD_eq_getElem?_getD, hp]
  rfl
omit h in
theorem allTo_mem {f : Nat → Bool} : ∀ {n : Nat}, allTo f n = true → ∀ i, i ≤ n → f i = true
  | 0, h, i, hi => by
    obtain rfl : i = 0 := by omega
    exact h
  | n + 1, h, i, hi => by
    unfold allTo at h
    rw [Bool.and_eq_true] at h
    by_cases he : i = n + 1
    · subst he
      exact h.1
    · exact allTo_mem h.2 i (by omega)
theorem lns_E : LnAll FillTab.gs rk40 (roW A len cap) Tryz.prog 5 x.σE Ωn [L2 x.n x.k, L4 x.n x.k] := by
  have h6 := h.n6
  have hI := inv h.toOk (i := 500)
  refine lnAll_cons (fun fs ok c hc hck => ?_) (lnAll_cons (fun fs ok c hc hck => ?_) lnAll_nil)
  · refine ln_ok FillTab.gs rk40 (roW A len cap) mixed (f := 5) (l := L2 x.n x.k) (h0 := run2_ok x.n x.k h.n0 h.n6 h.k6) (by kernel_rfl) rfl rfl rfl (fun i => i ≤ 500) (fun i => 500 - i) x.σT (fun _ => Ωn) (fun i hi => facts_2 h.toOk hi)
      (fun i hi => kcs_2 h.toOk h.wf hi) (fun _ _ => lnAll_nil) 0 (Nat.zero_le _) ?_ (fun i hi => ?_) fs ok c hc hck
    · show AgreeD _ ⟨40, 5, 0, 3004⟩ _ _ _ _ _
      refine agree_sgR (fun j p hp => by obtain rfl := roW_40 j p hp; exact ⟨by omega, LsRec.var' (by omega) rfl⟩) (by decide) (by decide) rfl (fun j hj => ?_) fun q hq => ?_
      · have hj : j < 40 := hj
        by_cases j6 : j = 6
        · subst j6; rfl
        · by_cases j18 : j = 18
          · subst j18
            show (((x.st 0).cnt : Nat) : Int) = ((cnt0 x.k : Nat) : Int)
            unfold Nf.st runF
            rfl
          · rw [vAt_ne (j := 6) (r := [(18, l (cnt0 x.k))]) rfl (fun h => j6 h.symm), vAt_ne (j := 18) (r := []) rfl (fun h => j18 h.symm), vAt_nil rfl]
            show _ = (v j).ev x.σE
            rw [eev' hj]
            exact vT_const hj j6 j18
      · have hq : q < 5 := hq
        have e0 : x.st 0 = ⟨m0 x.k, List.replicate x.n .p30, cnt0 x.k⟩ := by unfold Nf.st runF; rfl
        match q, hq with
        | 0, _ => exact LsRec.var' (q := 0) (by omega) rfl
        | 1, _ =>
          show LsRec _ (chainE (tasks0 x.n)) (x.lT 0 1)
          have e : x.lT 0 1 = tasks0 x.n := by
            show recsF x.k (x.st 0).ps = _
            rw [e0]
            unfold recsF tasks0
            rw [List.length_replicate]
            apply List.map_congr_left
            intro j hj
            have hj := List.mem_range.1 hj
            rw [List.getD_eq_getElem?_getD, List.getElem?_replicate, if_pos hj]
            rfl
          rw [e]
          exact chainE_ev _
        | 2, _ =>
          show LsRec _ (chainE (one (natsI (gF x.n x.k (m0 x.k))))) (x.lT 0 2)
          have e : x.lT 0 2 = one (natsI (gF x.n x.k (m0 x.k))) := by
            show one (natsI (gF x.n x.k (x.st 0).m)) = _
            rw [e0]
          rw [e]
          exact chainE_ev _
        | 3, _ => exact LsRec.var' (q := 3) (by omega) rfl
        | 4, _ => exact LsRec.var' (q := 4) (by omega) rfl
        | q + 5, hq => exact absurd hq (by omega)
    · exact round_2 h.toOk hi
  · refine ln_okS FillTab.gs rk40 (roW A len cap) mixed (f := 5) (l := L4 x.n x.k) (n := 30) (kcs := fun _ => kgs []) (lns := lns4 x.n x.k) (dt := D4 x.n) (fs0 := f4 x.n) (fun i => i ≤ x.n) (fun i hi => ?_) (by kernel_rfl) rfl rfl rfl (fun i => x.n - i) x.σ4 (fun _ => Ωn) (fun i hi q hq => ?_)
      (fun _ _ => kcAll_nil) (fun i hi => ?_) 0 (Nat.zero_le _) ?_ (fun i hi => ?_) fs ok c hc hck
    · have := run4_ok x.n x.k h.n0 h.n6 h.k6
      unfold run4 at this
      exact allTo_mem this i hi
    · have hg := got_le (x := x) (i := i)
      simp only [f4, List.cons_append, List.nil_append, List.mem_cons] at hq
      rcases hq with rfl | rfl | hq
      · exact eq_t a17 (y := (i : Int)) rfl rfl
      · exact eq_t (len4 h) (y := (x.n : Int)) rfl rfl
      · exact rng_ok a21 (by omega) (by omega) q hq
    · unfold lns4
      cases hb : Nat.blt i x.n with
      | false => exact lnAll_nil
      | true =>
        have hi : i < x.n := by simpa using hb
        exact lnAll_cons (lns_5 h hi true) (lnAll_cons (lns_5 h hi false) lnAll_nil)
    · show AgreeD _ ⟨130, 3, 0, 3200⟩ _ _ _ _ _
      refine agree_sgR (fun j p hp => by obtain rfl := roW_40 j p hp; exact ⟨by omega, LsRec.var' (by omega) rfl⟩) (by decide) (by decide) rfl (fun q hq => ?_) fun q hq => ?_
      · have hq : q < 130 := hq
        by_cases q17 : q = 17
        · subst q17; rfl
        · by_cases q21 : q = 21
          · subst q21
            show ((x.got 0 : Nat) : Int) = 0
            unfold got
            simp
          · rw [vAt_ne (j := 17) (r := [(21, l 0)]) rfl (fun h => q17 h.symm), vAt_ne (j := 21) (r := []) rfl (fun h => q21 h.symm), vAt_nil rfl]
            show _ = (v q).ev x.σE
            rw [eev (by omega)]
            unfold v4
            rw [if_neg q17, if_neg q21, if_neg (by omega), if_neg (by omega), if_neg (by omega)]
      · rw [lAt_nil rfl]
        exact LsRec.var (by have : q < 3 := hq; omega)
    · unfold D4
      cases hb : Nat.blt i x.n with
      | false =>
        have hin : i = x.n := by
          have h1 : ¬ i < x.n := fun hlt => by
            have h2 : Nat.blt i x.n = true := by simpa using hlt
            rw [h2] at hb
            cases hb
          omega
        show AgreeD _ ⟨130, 3, 0, 3200⟩ _ _ _ _ _
        refine agree_sgR (fun j p hp => by obtain rfl := roW_40 j p hp; exact ⟨by omega, LsRec.var' (by omega) rfl⟩) (by decide) (by decide) rfl (fun q hq => ?_) fun q hq => ?_
        · have hq : q < 130 := hq
          rw [vAt_nil rfl]
          show x.vE q = (v q).ev (x.σ4 i)
          rw [ev4 (by omega)]
          unfold v4
          by_cases q17 : q = 17
          · subst q17
            rw [if_pos rfl, hin]
            rfl
          · rw [if_neg q17]
            by_cases q21 : q = 21
            · subst q21
              rw [if_pos rfl, hin, got_n h]
              rfl
            · rw [if_neg q21, if_neg (by omega), if_neg (by omega), if_neg (by omega)]
        · rw [lAt_nil rfl]
          exact LsRec.var (by have : q < 3 := hq; omega)
      | true =>
        have hin : i < x.n := by simpa using hb
        have hil : i < (x.st 500).ps.length := by rw [hI.len]; exact hin
        obtain ⟨p, hp⟩ : ∃ p, (x.st 500).ps[i]? = some p := ⟨_, List.getElem?_eq_getElem hil⟩
        have hid := idle_ h hp
        have hgs := got_succ (x := x) hp
        have nx : ∀ {e : SE}, e.ev (x.σ4 i) = (x.got (i + 1) : Int) → AgreeD { v := [(17, .bin .add (v 17) (l 1)), (21, e)] } ⟨130, 3, 0, 3200⟩ (roW A len cap) (x.σ4 i) Ωn (x.σ4 (i + 1)) Ωn := fun {e} he => by
          refine agree_sgR (fun j p hp => by obtain rfl := roW_40 j p hp; exact ⟨by omega, LsRec.var' (by omega) rfl⟩) (by decide) (by decide) rfl (fun q hq => ?_) fun q hq => ?_
          · have hq : q < 130 := hq
            by_cases q17 : q = 17
            · subst q17
              show ((i + 1 : Nat) : Int) = IntKind.i64.wrap ((v 17).ev (x.σ4 i) + 1)
              rw [a17, i64_small (by omega) (by omega)]
              rfl
            · by_cases q21 : q = 21
              · subst q21
                exact he.symm
              · rw [vAt_ne (j := 17) (r := [(21, e)]) rfl (fun h => q17 h.symm), vAt_ne (j := 21) (r := []) rfl (fun h => q21 h.symm), vAt_nil rfl]
                show _ = (v q).ev (x.σ4 i)
                rw [ev4 (by omega)]
                unfold v4
                rw [if_neg q17, if_neg q21, if_neg (by omega), if_neg (by omega), if_neg (by omega), if_neg q17, if_neg q21, if_neg (by omega), if_neg (by omega), if_neg (by omega)]
          · rw [lAt_nil rfl]
            exact LsRec.var (by have : q < 3 := hq; omega)
        refine ⟨fun h3 => ⟨fun _ => ?_, fun h4 => ?_⟩, fun h3 => ⟨fun _ => ?_, fun h4 => ?_⟩⟩
        · have h3 : ((at1 (v 17) 3).ev (x.σ4 i) == 1) = true := h3
          rw [at1_4 a17 hp (by omega)] at h3
          refine ⟨i + 1, by omega, by omega, nx ?_⟩
          rw [a131, hgs]
          cases p with
          | fin s => rfl
          | page => cases h3
          | _ => cases hid
        · have h3 : ((at1 (v 17) 3).ev (x.σ4 i) == 1) = true := h3
          have h4 : ((v (100 + 4 * i)).ev (x.σ4 i) == (at1 (v 17) 5).ev (x.σ4 i)) = false := h4
          rw [at1_4 a17 hp (by omega)] at h3
          rw [core_at h hin hp, at1_4 a17 hp (by omega)] at h4
          cases p with
          | fin s =>
            have h4 : ((s : Int) == s) = false := h4
            simp at h4
          | page => cases h3
          | _ => cases hid
        · have h3 : ((at1 (v 17) 3).ev (x.σ4 i) == 1) = false := h3
          rw [at1_4 a17 hp (by omega)] at h3
          refine ⟨i + 1, by omega, by omega, nx ?_⟩
          rw [a132, hgs]
          cases p with
          | page => rfl
          | fin s => cases h3
          | _ => cases hid
        · have h3 : ((at1 (v 17) 3).ev (x.σ4 i) == 1) = false := h3
          have h4 : ((at1 (v 17) 4).ev (x.σ4 i) == 1) = false := h4
          rw [at1_4 a17 hp (by omega)] at h3 h4
          cases p with
          | page => cases h4
          | fin s => cases h3
          | _ => cases hid
/-! the calls -/
omit h in
theorem kc_bringI (q : Nat) (a m : Int) (n : Nat) (hq : (v q).ev x.σE = a) (hm : 1 ≤ m) (hm2 : m ≤ 1000) (ha : (Lit.int .i64 a).wf = true) {r : Int} (hr : a % m = r) (fs) (ok : ∀ q ∈ fs, q.1.ev x.σE = q.2) : @KcOk (nums FillTab.gs rk40 (roW A len cap) x.σE Ωn fs ok) Tryz.prog (kcBringI (v q) m r) := by
  letI N : Nums := nums FillTab.gs rk40 (roW A len cap) x.σE Ωn fs ok
  refine kc_pure rfl rfl rfl rfl rfl fn_bringK fun _ W w m' hO => ?_
  rw [show (valsOf Nums.σ (kcBringI (v q) m r).args).toArray = #[.int .i64 a, .int .i64 m] from by
    show (#[Value.int .i64 ((v q).ev x.σE), Value.int .i64 m] : Array Value) = _
    rw [hq]]
  refine (bring_spec a m hm (by omega) ha w).mono ?_
  rintro e w' ⟨rfl, rfl⟩
  rw [hr]
  exact ⟨rfl, hO⟩
omit h in
theorem kc_worksE (fs) (ok : ∀ q ∈ fs, q.1.ev x.σE = q.2) : @KcOk (nums FillTab.gs rk40 (roW A len cap) x.σE Ωn fs ok) Tryz.prog kcWorks := by
  refine kc_tree (σ1 := x.σE) (Ω1 := Ωn) (A := []) (pre := []) (B0 := ⟨0, 0, 0, 0⟩) (θ0 := {}) (kcs := kgs []) (lns := []) (n := 30) (k := kcWorks) (d := kcWorks.leaf {}) (fs1 := []) mixed fn_works rfl rfl rfl rfl rfl kcAll_nil lnAll_nil (fun q hq => by cases hq) runWorks ?_ ?_ fs ok
  · exact agree_sgR (fun j p hp => by obtain rfl := roW_40 j p hp; exact ⟨by omega, LsRec.var' (by omega) rfl⟩) (by decide) (by decide) rfl (fun j hj => absurd hj (Nat.not_lt_zero j)) fun j hj => absurd hj (Nat.not_lt_zero j)
  · refine ⟨{}, ⟨0, 0, 0, rel⟩, rfl, rfl, rfl, ?_⟩
    exact agree_sgR (fun j p hp => by obtain rfl := roW_40 j p hp; exact ⟨by omega, LsRec.var' (by omega) rfl⟩) (by decide) (by decide) rfl (fun j hj => absurd hj (Nat.not_lt_zero j)) fun j hj => absurd hj (Nat.not_lt_zero j)
theorem kcs_E : KcAll FillTab.gs rk40 (roW A len cap) Tryz.prog x.σE Ωn (kcs0 x.n x.k) := by
  have h0 := h.n0
  have h6 := h.n6
  have hI := inv h.toOk (i := 500)
  have he := end_ h
  have w9 : LsVal x.σE 9 (natsI (gF x.n x.k (x.st 500).m)) := ls_sg (by omega) rfl
  have e20 : (v 20).ev x.σE = ((76 + 4 * x.n : Nat) : Int) := by
    rw [eev' (by omega)]
    show (76 : Int) + 4 * (x.n : Int) = _
    omega
  refine kcAll_more (kcAll_cons (fun fs ok => ?_) (kcAll_cons (fun fs ok => ?_) (kcAll_cons (fun fs ok => ?_) (kcAll_cons (fun fs ok => ?_) kcAll_nil)))) (kcAll_sl fun nn hn fs ok => ?_)
  · exact kc_bringI 30 x.r0 6 0 (eev' (by omega)) (by omega) (by omega) h.w0 h.e0 fs ok
  · exact kc_bringI 31 x.r1 7 0 (eev' (by omega)) (by omega) (by omega) h.w1 h.e1 fs ok
  · letI N : Nums := nums FillTab.gs rk40 (roW A len cap) x.σE Ωn fs ok
    have r2 : LsRec x.σE (.lvar 2) (one (natsI (gF x.n x.k (x.st 500).m))) := LsRec.var' (by omega) rfl
    exact kc_clone (g := gF x.n x.k (x.st 500).m) (by decide) r2.is (by rw [gF_len]; exact e20) (by rw [gF_len]; omega) (by rw [gF_len]; omega) w9
  · exact kc_worksE fs ok
  · letI N : Nums := nums FillTab.gs rk40 (roW A len cap) x.σE Ωn fs ok
    refine kc_seeL (c := cF x.n) (d := 0) (e := 0) (K := coreF x.n x.k (x.st 500).m.tk (x.st 500).ps) (g := gF x.n x.k (x.st 500).m) hn rfl rfl ?_ (w64_gF hI h.k6) ?_ w9 (see_is hI h.k6 (fun j p hp => idle_ h hp) he.2.1) ?_
    · refine ⟨?_, by show (9 : Nat) < _; omega⟩
      unfold chartPlaces.Ok
      show (1 : Int) ≤ ((x.n : Nat) : Int) ∧ _
      simp only
      omega
    · rw [gF_len]
      unfold Ch.words
      show 76 + 4 * x.n = 4 * x.n + 4 + 4 * 8 + 8 * 5
      omega
    · refine seeVal_core h0 fun i hi => ?_
      have : x.σE (100 + i) = x.vE (100 + i) := eev (q := 100 + i) (by omega)
      show x.σE (100 + i) = _
      rw [this]
      unfold vE
      rw [if_neg (by omega), if_neg (by omega), show 100 + i - 100 = i by omega]
theorem facts_E : ∀ q ∈ f00 x.n x.k, q.1.ev x.σE = q.2 := by
  have h0 := h.n0
  have h6 := h.n6
  have he := end_ h
  have hc : (x.st 500).cnt ≤ cnt0 x.k + 500 := cnt_run 500
  have hc0 := cnt0_le x.k h.k6
  have e20 : (v 20).ev x.σE = ((76 + 4 * x.n : Nat) : Int) := by
    rw [eev' (by omega)]
    show (76 : Int) + 4 * (x.n : Int) = _
    omega
  have e18 : (v 18).ev x.σE = ((x.st 500).cnt : Int) := eev' (by omega)
  have e21 : (v 21).ev x.σE = ((min x.n x.k : Nat) : Int) := eev' (by omega)
  have len2 : (SE.len (.lvar 2)).ev x.σE = ((76 + 4 * x.n : Nat) : Int) := by
    show ((x.σE (ln 2)).toNat : Int) = _
    unfold σE
    rw [sg_oneN (q := 2) (L := natsI (gF x.n x.k (x.st 500).m)) (by omega) (by simp [lE, lT]), natsI_len, gF_len]
    rfl
  have ec : ∀ i, i < 4 * x.n + 42 → (v (100 + i)).ev x.σE = coreN x.n x.k (x.st 500).m.tk (x.st 500).ps i := fun i hi => by
    rw [eev (by omega)]
    unfold vE
    rw [if_neg (by omega), if_neg (by omega), show 100 + i - 100 = i by omega]
  intro q hq
  simp only [f00, f0, List.append_assoc, List.cons_append, List.nil_append, List.mem_cons, List.mem_append] at hq
  rcases hq with rfl | rfl | rfl | rfl | hq | hq | hq
  · exact eq_t e21 (y := ((min x.n x.k : Nat) : Int)) rfl rfl
  · exact eq_t (x := (76 + 4 * (x.n : Int))) rfl e20 (by omega)
  · refine eq_t (ec (4 * x.n) (by omega)) (y := ((x.k - x.n : Nat) : Int)) rfl ?_
    unfold coreN
    rw [if_neg (by omega), if_pos rfl, he.1]
    congr 1
    omega
  · have e1 : (v (101 + 4 * x.n)).ev x.σE = 0 := by
      have := ec (4 * x.n + 1) (by omega)
      rw [show 100 + (4 * x.n + 1) = 101 + 4 * x.n by omega] at this
      rw [this]
      unfold coreN
      rw [if_neg (by omega), if_neg (by omega), if_pos rfl]
    exact eq_t e1 (y := 0) rfl rfl
  · exact rng_ok e18 (by omega) (by omega) q hq
  · exact rng_ok e20 (by omega) (by omega) q hq
  · exact rng_ok len2 (by omega) (by omega) q hq
end
/-- .. of all such numbers -/
theorem law_of {x : Nf} (h : x.Ok2) (w : World) (hg : Tabs FillTab.gs w) {A : Option Addr} {len cap : Nat} (hlc : len ≤ cap) (hcap : cap ≤ maxLen)
    (hb : x.whose.length = len) (hbc : ∀ a, A = some a → 0 < len → a.block < w.heap.size ∧ ∀ e, e < len → w.cell? (a.add e) = some ((ckOf (some .i64)).val (x.whose[e]?.getD 0))) (hbn : A = none → len = 0) :
    Calls Tryz.prog 5 #[.int .i64 x.r0, .int .i64 x.r1, .slice A len cap] w fun r w' => r = .returned (.bool true) ∧ Own w [] w' := by
  have ok := facts_E h
  have hb40 : x.σE (ln 40) = (len : Int) := by
    unfold σE
    rw [sg_oneN (L := x.whose) (by omega) rfl, hb]
  have hc40 : ∀ e, x.σE (lc 40 e 0) = x.whose[e]?.getD 0 := fun e => by
    unfold σE
    rw [sg_one (L := x.whose) (by omega) rfl, List.getD_eq_getElem?_getD]
  have hrun : treeC Tryz.prog FillTab.gs rk40 (kcs0 x.n x.k) [L2 x.n x.k, L4 x.n x.k] 30 5 arg0 ⟨[], [], ⟨0, 0, 0, 0⟩⟩ (.is (.bool true) []) (f00 x.n x.k) = true := run0_ok x.n x.k h.n0 h.n6 h.k6
  refine law_calls (f := 5) mixed (kcs_E (A := A) (len := len) (cap := cap) h) (lns_E h) ok hrun rfl w hg ?_ ?_
  · intro i ck A' len' c' hck hro
    have hro : roW A len cap i = some (A', len', c') := hro
    obtain rfl := roW_40 _ _ hro
    have hro : some (A, len, cap) = some (A', len', c') := hro
    cases hro
    have hck : some (CK.int .i64) = some ck := hck
    cases hck
    refine ⟨show (x.σE (ln 40)).toNat = len by rw [hb40]; rfl, fun a ha h0 => ?_⟩
    obtain ⟨h1, h2⟩ := hbc a ha h0
    refine ⟨h1, fun e he => ?_⟩
    rw [h2 e he]
    show some (Value.int .i64 _) = some (Value.int .i64 (x.σE (lc 40 e 0)))
    rw [hc40]
  · letI N : Nums := nums FillTab.gs rk40 (roW A len cap) x.σE Ωn (f00 x.n x.k) ok
    show VRs (fun _ => none) [.sym .i64 (v 30), .sym .i64 (v 31), .rsl 40] [.int .i64 x.r0, .int .i64 x.r1, .slice A len cap]
    refine VRs.cons ?_ (VRs.cons ?_ (VRs.cons ?_ VRs.nil))
    · unfold VR
      show _ = Value.int .i64 ((v 30).ev x.σE)
      rw [eev' (by omega)]
      rfl
    · unfold VR
      show _ = Value.int .i64 ((v 31).ev x.σE)
      rw [eev' (by omega)]
      rfl
    · unfold VR
      exact ⟨A, len, cap, rfl, rfl, hlc, hcap, show (x.σE (ln 40)).toNat = len by rw [hb40]; rfl, hbn⟩
end Nf
theorem nat_of (x m : Int) (hm : 1 ≤ m) : ∃ a : Nat, x % m = a ∧ (a : Int) < m := by
  have h1 := Int.emod_nonneg x (show m ≠ 0 by omega)
  have h2 := Int.emod_lt_of_pos x (show 0 < m by omega)
  generalize x % m = r at h1 h2
  exact ⟨r.toNat, by omega, by omega⟩
/-- THE LAW -/
theorem apart_law (w : World) (hg : Tabs FillTab.gs w) (n0 n1 : Int) (h0 : (Lit.int .i64 n0).wf = true) (h1 : (Lit.int .i64 n1).wf = true) (A : Option Addr) (len cap : Nat) (hlc : len ≤ cap) (hcap : cap ≤ maxLen) (hat : FlatAt w [some .i64] A len) :
    Calls Tryz.prog 5 #[.int .i64 n0, .int .i64 n1, .slice A len cap] w fun r w' => r = .returned (.bool true) ∧ Own w [] w' := by
  obtain ⟨whose, hwl, hbc, hbn, hwf⟩ := flat_list hat
  obtain ⟨a, ha, ha2⟩ := nat_of n0 6 (by omega)
  obtain ⟨b, hb, hb2⟩ := nat_of n1 7 (by omega)
  refine Nf.law_of (x := ⟨a + 1, b, n0, n1, whose⟩) ⟨⟨?_, ?_, ?_⟩, h0, h1, ?_, hb, hwf⟩ w hg hlc hcap hwl hbc hbn
  · show 0 < a + 1
    omega
  · show a + 1 ≤ 6
    omega
  · show b ≤ 6
    omega
  · show n0 % 6 = ((a + 1 : Nat) : Int) - 1
    omega
end Go.Proofs.YtcbljokbechppaaGreatDoor.Fil
