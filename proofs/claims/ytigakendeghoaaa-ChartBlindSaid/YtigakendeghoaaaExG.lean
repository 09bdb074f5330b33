/-
  The runner: an operation that looks at no memory gives what the model gives (all). No condition.
-/
import Derived.Test.YtigakendeghoaaaExF
namespace Go.Proofs.Ytigakendeghoaaa.Ex
open Go
variable [Nums]
section
variable {P : Program} {ρ : Ren}
omit [Nums] in
theorem blt_no {a b : Nat} (h : Nat.blt a b = false) : ¬ a < b := fun hc => by
  have : Nat.blt a b = true := by simpa using hc
  rw [this] at h
  cases h
def VRo (ρ : Ren) : Option AV → Option Value → Prop
  | none, o => o = none
  | some x, o => ∃ y, o = some y ∧ VR ρ x y
theorem bnd_spec {d y k : Nat} {ao : Option AV} {ov : Option Value} (h : bnd d y ao = some k) (hv : VRo ρ ao ov) : (ao = none ∧ ov = none ∧ k = d) ∨ ∃ kk, ov = some (.int kk (k : Int)) ∧ k ≤ y := by
  unfold bnd at h
  split at h
  · cases h
    exact .inl ⟨rfl, hv, rfl⟩
  · rename_i kk n
    split at h
    · rename_i hle
      cases h
      obtain ⟨u, rfl, hu⟩ := hv
      unfold VR at hu
      subst hu
      exact .inr ⟨kk, rfl, by simpa using hle⟩
    · cases h
  · cases h
omit [Nums] in
theorem sliceBound_ok (kk : IntKind) (k y : Nat) (code : BoundsCode) (h : k ≤ y) (w : World) : (Instr.sliceBound (.int kk (k : Int)) y code).run P w = .ok k w := by
  have := run_sliceBound (P := P) w kk (k : Int) y code (by omega) (by omega)
  simpa using this
omit [Nums] in
theorem slice_run {t e : TypeId} {s : Nat} (hu : P.underlying t = some (.slice e)) (hs : sizeT P e = some s) (a : Option Addr) (len cap : Nat) (ol oh om : Option Value) (l h m : Nat)
    (hm : (om = none ∧ m = cap) ∨ ∃ k, om = some (.int k (m : Int)) ∧ m ≤ cap) (hh : (oh = none ∧ om = none ∧ h = len) ∨ ∃ k, oh = some (.int k (h : Int)) ∧ h ≤ m) (hl : (ol = none ∧ l = 0) ∨ ∃ k, ol = some (.int k (l : Int)) ∧ l ≤ h) (w : World) :
    (Instr.sliceAt t (.slice a len cap) ol oh om).run P w = .ok (.slice (if m = l then a else a.map (·.add (l * s))) (h - l) (m - l)) w := by
  have hsz := sizeT_run hs w
  have hb : (Instr.sliceBounds true len cap ol oh om).run P w = .ok (l, h, m) w := by
    rcases hm with ⟨rfl, rfl⟩ | ⟨k1, rfl, h1⟩ <;> rcases hh with ⟨rfl, h0, rfl⟩ | ⟨k2, rfl, h2⟩ <;> rcases hl with ⟨rfl, rfl⟩ | ⟨k3, rfl, h3⟩ <;>
      first
      | (cases h0; done)
      | simp [Instr.sliceBounds, sliceBound_ok, *]
  simp [Instr.sliceAt, run_underlying hu w, Instr.slice, hb, hsz]
theorem slice_sound {t e : TypeId} {x v : AV} {al ah am : Option AV} {u : Value} {ol oh om : Option Value} (hu : P.underlying t = some (.slice e)) (h : asliceOf P e x al ah am = some v) (hx : VR ρ x u)
    (hl : VRo ρ al ol) (hh : VRo ρ ah oh) (hm : VRo ρ am om) : ∃ y, VR ρ v y ∧ ∀ w, (Instr.sliceAt t u ol oh om).run P w = .ok y w := by
  unfold asliceOf at h
  split at h
  · -- nil
    unfold VR at hx
    subst hx
    split at h <;> first | (cases h; done) | skip
    rename_i m0 e1
    split at h <;> first | (cases h; done) | skip
    rename_i h0 e2
    split at h <;> first | (cases h; done) | skip
    rename_i l0 e3
    split at h
    · cases h
    · rename_i hno
      split at h <;> first | (cases h; done) | skip
      rename_i s hs
      simp only [Option.some.injEq] at h
      subst h
      refine ⟨.slice none 0 0, by unfold VR; rfl, fun w => ?_⟩
      have q1 : (om = none ∧ 0 = 0) ∨ ∃ k, om = some (.int k ((0 : Nat) : Int)) ∧ 0 ≤ 0 := by
        rcases bnd_spec e1 hm with ⟨_, r1, _⟩ | ⟨k, r1, r2⟩
        · exact .inl ⟨r1, rfl⟩
        · obtain rfl : m0 = 0 := by omega
          exact .inr ⟨k, r1, Nat.le_refl _⟩
      have q2 : (oh = none ∧ om = none ∧ 0 = 0) ∨ ∃ k, oh = some (.int k ((0 : Nat) : Int)) ∧ 0 ≤ 0 := by
        rcases bnd_spec e2 hh with ⟨r0, r1, _⟩ | ⟨k, r1, r2⟩
        · rcases bnd_spec e1 hm with ⟨_, r3, _⟩ | ⟨k, r3, r4⟩
          · exact .inl ⟨r1, r3, rfl⟩
          · exfalso
            subst r0
            cases am with
            | none => rw [show om = none from hm] at r3; cases r3
            | some am => exact hno _ rfl rfl
        · obtain rfl : h0 = 0 := by omega
          exact .inr ⟨k, r1, Nat.le_refl _⟩
      have q3 : (ol = none ∧ 0 = 0) ∨ ∃ k, ol = some (.int k ((0 : Nat) : Int)) ∧ 0 ≤ 0 := by
        rcases bnd_spec e3 hl with ⟨_, r1, _⟩ | ⟨k, r1, r2⟩
        · exact .inl ⟨r1, rfl⟩
        · obtain rfl : l0 = 0 := by omega
          exact .inr ⟨k, r1, Nat.le_refl _⟩
      rw [slice_run hu hs none 0 0 ol oh om 0 0 0 q1 q2 q3 w]
      rfl
  · rename_i n off len sz r
    unfold VR at hx
    obtain ⟨b, s0, c, hρ, rfl, hlc, hcm, hroom⟩ := hx
    split at h <;> first | (cases h; done) | skip
    rename_i s hs
    split at h
    · cases h
    · rename_i hsz
      have hsz := Nat.eq_of_beq_eq_true hsz
      subst hsz
      split at h
      · -- no third bound
        have hom : om = none := hm
        split at h <;> first | (cases h; done) | skip
        rename_i hi e1
        split at h <;> first | (cases h; done) | skip
        rename_i lo e2
        have q1 : (om = none ∧ c = c) ∨ ∃ k, om = some (.int k (c : Int)) ∧ c ≤ c := .inl ⟨hom, rfl⟩
        have q2 : (oh = none ∧ om = none ∧ hi = len) ∨ ∃ k, oh = some (.int k (hi : Int)) ∧ hi ≤ c := by
          rcases bnd_spec e1 hh with ⟨_, r1, r2⟩ | ⟨k, r1, r2⟩
          · exact .inl ⟨r1, hom, r2⟩
          · exact .inr ⟨k, r1, by omega⟩
        have hhl : hi ≤ len := by
          rcases bnd_spec e1 hh with ⟨_, r1, r2⟩ | ⟨k, r1, r2⟩ <;> omega
        have q3 : (ol = none ∧ lo = 0) ∨ ∃ k, ol = some (.int k (lo : Int)) ∧ lo ≤ hi := by
          rcases bnd_spec e2 hl with ⟨_, r1, r2⟩ | ⟨k, r1, r2⟩
          · exact .inl ⟨r1, r2⟩
          · exact .inr ⟨k, r1, r2⟩
        have hrun := fun w => slice_run hu hs (some ⟨b, off, none⟩) len c ol oh om lo hi c q1 q2 q3 w
        split at h
        · rename_i h0
          have h0 := Nat.eq_of_beq_eq_true h0
          subst h0
          simp only [Option.some.injEq] at h
          subst h
          refine ⟨_, ?_, hrun⟩
          unfold VR
          refine ⟨b, s0, c, hρ, ?_, by omega, hcm, hroom⟩
          simp [Addr.add]
        · rename_i h0
          split at h
          · rename_i h1
            have h1 : lo < hi := by simpa using h1
            simp only [Option.some.injEq] at h
            subst h
            refine ⟨_, ?_, hrun⟩
            unfold VR
            refine ⟨b, s0, c - lo, hρ, ?_, ?_, by omega, trivial⟩
            · rw [if_neg (by omega)]
              simp only [Option.map_some, Addr.add_mid]
              rfl
            · show hi - lo ≤ c - lo
              omega
          · rename_i h1
            have h1 : ¬ lo < hi := blt_no h1
            simp only [Option.some.injEq] at h
            subst h
            refine ⟨_, ?_, hrun⟩
            unfold VR
            have hll : lo ≤ hi := by rcases q3 with ⟨_, r⟩ | ⟨k, _, r⟩ <;> omega
            rw [show hi - lo = 0 from by omega]
            by_cases hc : c = lo
            · rw [if_pos hc]; exact ⟨_, _, rfl⟩
            · rw [if_neg hc]; exact ⟨_, _, rfl⟩
      · rename_i am
        split at h <;> first | (cases h; done) | skip
        rename_i ahv
        split at h <;> first | (cases h; done) | skip
        rename_i m e0
        split at h <;> first | (cases h; done) | skip
        rename_i hi e1
        split at h <;> first | (cases h; done) | skip
        rename_i lo e2
        split at h
        · rename_i h0
          have h0 := Nat.eq_of_beq_eq_true h0
          subst h0
          simp only [Option.some.injEq] at h
          subst h
          obtain ⟨k0, r0, r0'⟩ : ∃ k, om = some (.int k (m : Int)) ∧ m ≤ len := by
            rcases bnd_spec e0 hm with ⟨r, _⟩ | r
            · cases r
            · exact r
          obtain ⟨k1, r1, r1'⟩ : ∃ k, oh = some (.int k (hi : Int)) ∧ hi ≤ m := by
            rcases bnd_spec e1 hh with ⟨r, _⟩ | r
            · cases r
            · exact r
          have q3 : (ol = none ∧ 0 = 0) ∨ ∃ k, ol = some (.int k ((0 : Nat) : Int)) ∧ 0 ≤ hi := by
            rcases bnd_spec e2 hl with ⟨_, r1, r2⟩ | ⟨k, r1, r2⟩
            · exact .inl ⟨r1, r2⟩
            · exact .inr ⟨k, r1, r2⟩
          refine ⟨_, ?_, fun w => slice_run hu hs (some ⟨b, off, none⟩) len c ol oh om 0 hi m (.inr ⟨k0, r0, by omega⟩) (.inr ⟨k1, r1, r1'⟩) q3 w⟩
          unfold VR
          refine ⟨b, s0, m, hρ, ?_, by omega, by omega, rfl⟩
          simp [Addr.add]
        · cases h
  · cases h
theorem aint2_sound {mx : Bool} {x y v : AV} {a b : Value} (h : aint2 mx x y = some v) (hx : VR ρ x a) (hy : VR ρ y b) : ∃ u, VR ρ v u ∧ ∀ w, ((if mx then Builtin.max2 a b else Builtin.min2 a b) : Sem Value).run P w = .ok u w := by
  unfold aint2 at h
  split at h
  · unfold VR at hx hy
    subst hx; subst hy
    split at h <;> (simp only [Option.some.injEq] at h; subst h; refine ⟨_, by unfold VR; rfl, fun w => ?_⟩)
    · simp [Builtin.max2]
    · simp [Builtin.min2]
  · split at h <;> first | (cases h; done) | skip
    rename_i k a' h1
    split at h <;> first | (cases h; done) | skip
    rename_i k' b' h2
    have e1 := toSE_ok h1 hx
    have e2 := toSE_ok h2 hy
    split at h <;> first | (cases h; done) | skip
    rename_i hk
    have hk := of_decide_eq_true hk
    subst hk
    split at h <;> first | (cases h; done) | skip
    split at h <;> first | (cases h; done) | skip
    · rename_i hr
      have := of_decide_eq_true (askLt_ok hr)
      cases h
      subst e1; subst e2
      exact ⟨_, hy, fun w => by simp [Builtin.max2, this]⟩
    · rename_i hr
      have := of_decide_eq_false (askLt_ok hr)
      cases h
      subst e1; subst e2
      exact ⟨_, hx, fun w => by simp [Builtin.max2, this]⟩
theorem afold_sound (mx : Bool) : ∀ {l : List AV} {x v : AV} {a : Value} {m : List Value}, afoldInt mx x l = some v → VR ρ x a → VRs ρ l m → ∃ u, VR ρ v u ∧ ∀ w, (m.foldlM (fun a b => if mx then Builtin.max2 a b else Builtin.min2 a b) a : Sem Value).run P w = .ok u w
  | [], x, v, a, m, h, hx, hl => by
    unfold VRs at hl
    subst hl
    simp only [afoldInt, Option.some.injEq] at h
    subst h
    exact ⟨a, hx, fun w => by simp⟩
  | y :: l, x, v, a, m, h, hx, hl => by
    obtain ⟨b, bs, rfl, h1, h2⟩ := hl.uncons
    unfold afoldInt at h
    split at h
    · rename_i u hu
      obtain ⟨c, hc, hr⟩ := aint2_sound (P := P) hu hx h1
      obtain ⟨d, hd, hr'⟩ := afold_sound mx h hc h2
      refine ⟨d, hd, fun w => ?_⟩
      rw [List.foldlM_cons, Sem.run_bind, hr w, Result.andThen_ok, hr' w]
    · cases h
theorem VR.int_inv {k : IntKind} {n : Int} {u : Value} (h : VR ρ (.int k n) u) : u = .int k n := by unfold VR at h; exact h
theorem VR.ptr_inv {n off : Nat} {u : Value} (h : VR ρ (.ptr n off) u) : ∃ b s, ρ n = some (b, s) ∧ u = .pointer (some ⟨b, off, none⟩) := by unfold VR at h; exact h
omit [Nums] in
theorem map_list {l : Array Operand} {f : Operand → Value} : (l.map f).toList = l.toList.map f := by simp
theorem pure_sound {o : Oper} {a : Act} {vs : List AV} {v : AV} (h : apure P o.op vs = some v) (hv : VRs ρ vs (o.op.operands.toList.map a.eval)) :
    ∃ x, VR ρ v x ∧ ∀ w, (execOp a.eval o).run P w = .ok (.value x) w := by
  unfold execOp
  generalize o.op = op at h hv
  cases op with
  | move x =>
    simp only [apure] at h
    split at h <;> first | (cases h; done) | skip
    simp only [Option.some.injEq] at h; subst h
    obtain ⟨y, hy, hr⟩ := hv.one
    simp [Op.operands] at hy
    exact ⟨_, hr, fun w => by simp [hy]⟩
  | assign x =>
    simp only [apure] at h
    split at h <;> first | (cases h; done) | skip
    simp only [Option.some.injEq] at h; subst h
    obtain ⟨y, hy, hr⟩ := hv.one
    simp [Op.operands] at hy
    exact ⟨_, hr, fun w => by simp [hy]⟩
  | pick c x y =>
    simp only [apure] at h
    split at h <;> first | (cases h; done) | skip
    all_goals
      simp only [Option.some.injEq] at h; subst h
      obtain ⟨y1, y2, y3, hy, hr1, hr2, hr3⟩ := hv.three
      simp [Op.operands] at hy
      obtain ⟨e1, e2, e3⟩ := hy
      unfold VR at hr1
      subst hr1
    · exact ⟨_, hr2, fun w => by simp [e1, e2, asBool]⟩
    · exact ⟨_, hr3, fun w => by simp [e1, e3, asBool]⟩
  | build t parts =>
    obtain ⟨u, hu, hr⟩ := build_sound (ρ := ρ) (x := .const undef) h hv (f := a.eval) (by simp [Op.operands])
    exact ⟨u, hu, fun w => by simp [hr w]⟩
  | nilCheck x =>
    simp only [apure] at h
    split at h <;> first | (cases h; done) | skip
    · simp only [Option.some.injEq] at h; subst h
      obtain ⟨y, hy, hr⟩ := hv.one
      simp [Op.operands] at hy
      obtain ⟨b, s, _, rfl⟩ := hr.ptr_inv
      exact ⟨_, hr, fun w => by simp [hy]⟩
    · simp only [Option.some.injEq] at h; subst h
      obtain ⟨y, hy, hr⟩ := hv.one
      simp [Op.operands] at hy
      have hr' := hr
      unfold VR at hr'
      obtain ⟨_, _, rfl, _⟩ := hr'
      exact ⟨_, hr, fun w => by simp [hy]⟩
  | binOp op t x y yt =>
    simp only [apure] at h
    split at h <;> first | (cases h; done) | skip
    obtain ⟨y1, y2, hy, hr1, hr2⟩ := hv.two
    simp [Op.operands] at hy
    obtain ⟨e1, e2⟩ := hy
    obtain ⟨u, hu, hr⟩ := abinop_sound h hr1 hr2 x y
    refine ⟨u, hu, fun w => ?_⟩
    have := hr w
    simp only [e1, e2]
    simp only [Sem.run_bind] at this ⊢
    rw [this]
    simp
  | unOp op t x =>
    simp only [apure] at h
    split at h <;> first | (cases h; done) | skip
    obtain ⟨y, hy, hr⟩ := hv.one
    simp [Op.operands] at hy
    obtain ⟨u, hu, hr'⟩ := aun_run (P := P) h hr
    exact ⟨u, hu, fun w => by simp [hy, hr' w]⟩
  | convert src dst x =>
    simp only [apure] at h
    split at h <;> first | (cases h; done) | skip
    rotate_left
    · split at h <;> first | (cases h; done) | skip
      rename_i d hsu
      split at h <;> first | (cases h; done) | skip
      rename_i k hu
      simp only [Option.some.injEq] at h; subst h
      obtain ⟨y, hy, hr⟩ := hv.one
      simp [Op.operands] at hy
      unfold VR at hr
      subst hr
      rename_i kk e _ _
      refine ⟨.int k (k.wrap (e.ev Nums.σ)), by unfold VR; rfl, fun w => ?_⟩
      have : (convert src dst (.int kk (e.ev Nums.σ))).run P w = .ok (.int k (k.wrap (e.ev Nums.σ))) w := by
        unfold convert
        rw [Sem.run_bind, run_underlying hsu w, Result.andThen_ok, Sem.run_bind, run_underlying hu w, Result.andThen_ok]
        cases d <;> rfl
      simp [hy, this]
    split at h <;> first | (cases h; done) | skip
    rename_i d hsu
    split at h <;> first | (cases h; done) | skip
    rename_i k hu
    simp only [Option.some.injEq] at h; subst h
    obtain ⟨y, hy, hr⟩ := hv.one
    simp [Op.operands] at hy
    have hr := hr.int_inv
    subst hr
    rename_i kk n _ _
    refine ⟨.int k (k.wrap n), by unfold VR; rfl, fun w => ?_⟩
    have : (convert src dst (.int kk n)).run P w = .ok (.int k (k.wrap n)) w := by
      unfold convert
      rw [Sem.run_bind, run_underlying hsu w, Result.andThen_ok, Sem.run_bind, run_underlying hu w, Result.andThen_ok]
      cases d <;> rfl
    simp [hy, this]
  | makeFunc fn first captured =>
    simp only [apure, Option.some.injEq] at h; subst h
    refine ⟨.func fn (first.map a.eval) (captured.map a.eval), ?_, fun w => by simp [Instr.makeFunc]⟩
    unfold VR
    simp only [Op.operands, Array.toList_append, List.map_append] at hv
    refine ⟨_, _, rfl, ?_, ?_⟩
    · have := hv.take first.size
      rw [List.take_left' (by simp)] at this
      simpa using this
    · have := hv.drop first.size
      rw [List.drop_left' (by simp)] at this
      simpa using this
  | slice t x lo hi mx =>
    simp only [apure] at h
    split at h <;> first | (cases h; done) | skip
    rename_i e hu
    have fin : ∀ {x' v' : AV} {al ah am : Option AV}, asliceOf P e x' al ah am = some v' → VR ρ x' (a.eval x) → VRo ρ al (lo.map a.eval) → VRo ρ ah (hi.map a.eval) → VRo ρ am (mx.map a.eval) →
        ∃ y, VR ρ v' y ∧ ∀ w, ((do pure (.value (← Instr.sliceAt t (a.eval x) (lo.map a.eval) (hi.map a.eval) (mx.map a.eval))) : Sem Next)).run P w = .ok (.value y) w := by
      intro x' v' al ah am h1 h2 h3 h4 h5
      obtain ⟨y, hy, hr⟩ := slice_sound hu h1 h2 h3 h4 h5
      exact ⟨y, hy, fun w => by simp [hr w]⟩
    split at h
    · obtain ⟨y, hy, hr⟩ := hv.one
      simp [Op.operands] at hy
      subst hy
      exact fin h hr rfl rfl rfl
    · obtain ⟨y, y2, hy, hr, hr2⟩ := hv.two
      simp [Op.operands] at hy
      obtain ⟨rfl, rfl⟩ := hy
      exact fin h hr ⟨_, rfl, hr2⟩ rfl rfl
    · obtain ⟨y, y2, hy, hr, hr2⟩ := hv.two
      simp [Op.operands] at hy
      obtain ⟨rfl, rfl⟩ := hy
      exact fin h hr rfl ⟨_, rfl, hr2⟩ rfl
    · obtain ⟨y, y2, y3, hy, hr, hr2, hr3⟩ := hv.three
      simp [Op.operands] at hy
      obtain ⟨rfl, rfl, rfl⟩ := hy
      exact fin h hr ⟨_, rfl, hr2⟩ ⟨_, rfl, hr3⟩ rfl
    · obtain ⟨y, y2, y3, hy, hr, hr2, hr3⟩ := hv.three
      simp [Op.operands] at hy
      obtain ⟨rfl, rfl, rfl⟩ := hy
      exact fin h hr rfl ⟨_, rfl, hr2⟩ ⟨_, rfl, hr3⟩
    · obtain ⟨y, y2, y3, y4, hy, hr, hr2, hr3, hr4⟩ := hv.four
      simp [Op.operands] at hy
      obtain ⟨rfl, rfl, rfl, rfl⟩ := hy
      exact fin h hr ⟨_, rfl, hr2⟩ ⟨_, rfl, hr3⟩ ⟨_, rfl, hr4⟩
    · cases h
  | fieldAddr s x f =>
    simp only [apure] at h
    split at h <;> first | (cases h; done) | skip
    split at h <;> first | (cases h; done) | skip
    rename_i n off _ fs hu
    split at h <;> first | (cases h; done) | skip
    rename_i fd hfd
    split at h <;> first | (cases h; done) | skip
    rename_i sz hsz
    simp only [Option.some.injEq] at h; subst h
    obtain ⟨y, hy, hr⟩ := hv.one
    simp [Op.operands] at hy
    obtain ⟨b, s, hb, rfl⟩ := hr.ptr_inv
    refine ⟨.pointer (some ⟨b, off + fd.offset, none⟩), by unfold VR; exact ⟨b, s, hb, rfl⟩, fun w => ?_⟩
    simp [Instr.fieldAt, run_underlying hu w, hfd, hy, Instr.sureAddr, fieldPlace, sizeT_run hsz w, Addr.add_mid]
  | field t x f =>
    simp only [apure] at h
    split at h <;> first | (cases h; done) | skip
    split at h <;> first | (cases h; done) | skip
    rename_i cs _ fs hu
    split at h <;> first | (cases h; done) | skip
    rename_i fd hfd
    obtain ⟨y, hy, hr⟩ := hv.one
    simp [Op.operands] at hy
    obtain ⟨ar, rfl, hc⟩ := hr.agg_inv
    obtain ⟨u, hu', hr'⟩ := part_sound h hc
    exact ⟨u, hu', fun w => by simp [Instr.field, run_underlying hu w, hfd, hy, asAgg, hr' w]⟩
  | indexAddr t x i =>
    simp only [apure] at h
    split at h <;> first | (cases h; done) | skip
    · rename_i n off len sz r k j
      split at h <;> first | (cases h; done) | skip
      rename_i e hu
      split at h <;> first | (cases h; done) | skip
      rename_i q hq
      obtain ⟨rfl, hlt⟩ := inRange_spec hq
      split at h <;> first | (cases h; done) | skip
      rename_i s hs
      split at h <;> first | (cases h; done) | skip
      rename_i hsz
      have hsz := Nat.eq_of_beq_eq_true hsz
      subst hsz
      simp only [Option.some.injEq] at h; subst h
      obtain ⟨y, y2, hy, hr, hr2⟩ := hv.two
      simp [Op.operands] at hy
      obtain ⟨e1, e2⟩ := hy
      have hr2 := hr2.int_inv
      subst hr2
      unfold VR at hr
      obtain ⟨b, s0, c, hb, rfl, _⟩ := hr
      refine ⟨.pointer (some ⟨b, off + q * s, none⟩), by unfold VR; exact ⟨b, s0, hb, rfl⟩, fun w => ?_⟩
      have h0 : (0 : Int) ≤ q ∧ (q : Int) < len := by omega
      simp [Instr.indexAt, asIntOf, run_underlying hu w, e1, e2, hlt, sizeT_run hs w, Addr.add_mid]
    · rename_i n off k j
      split at h <;> first | (cases h; done) | skip
      rename_i len e hu
      split at h <;> first | (cases h; done) | skip
      rename_i q hq
      obtain ⟨rfl, hlt⟩ := inRange_spec hq
      split at h <;> first | (cases h; done) | skip
      rename_i s hs
      simp only [Option.some.injEq] at h; subst h
      obtain ⟨y, y2, hy, hr, hr2⟩ := hv.two
      simp [Op.operands] at hy
      obtain ⟨e1, e2⟩ := hy
      have hr2 := hr2.int_inv
      subst hr2
      obtain ⟨b, s0, hb, rfl⟩ := hr.ptr_inv
      refine ⟨.pointer (some ⟨b, off + q * s, none⟩), by unfold VR; exact ⟨b, s0, hb, rfl⟩, fun w => ?_⟩
      simp [Instr.indexAt, asIntOf, run_underlying hu w, e1, e2, hlt, sizeT_run hs w, Addr.add_mid, Instr.sureAddr]
    · rename_i b off k j
      split at h <;> first | (cases h; done) | skip
      rename_i len e hu
      split at h <;> first | (cases h; done) | skip
      rename_i q hq
      obtain ⟨rfl, hlt⟩ := inRange_spec hq
      split at h <;> first | (cases h; done) | skip
      rename_i s hs
      simp only [Option.some.injEq] at h; subst h
      obtain ⟨y, y2, hy, hr, hr2⟩ := hv.two
      simp [Op.operands] at hy
      obtain ⟨e1, e2⟩ := hy
      have hr2 := hr2.int_inv
      subst hr2
      unfold VR at hr
      subst hr
      refine ⟨.pointer (some ⟨b, off + q * s, none⟩), by unfold VR; rfl, fun w => ?_⟩
      simp [Instr.indexAt, asIntOf, run_underlying hu w, e1, e2, hlt, sizeT_run hs w, Addr.add_mid, Instr.sureAddr]
  | index t x i =>
    simp only [apure] at h
    split at h <;> first | (cases h; done) | skip
    rename_i cs k j
    split at h <;> first | (cases h; done) | skip
    rename_i len e hu
    unfold asCells at h
    split at h <;> first | (cases h; done) | skip
    rename_i q hq
    obtain ⟨rfl, hlt⟩ := inRange_spec hq
    split at h <;> first | (cases h; done) | skip
    rename_i s hs
    obtain ⟨y, y2, hy, hr, hr2⟩ := hv.two
    simp [Op.operands] at hy
    obtain ⟨e1, e2⟩ := hy
    have hr2 := hr2.int_inv
    subst hr2
    obtain ⟨ar, rfl, hc⟩ := hr.agg_inv
    obtain ⟨u, hu', hr'⟩ := part_sound h hc
    refine ⟨u, hu', fun w => ?_⟩
    have hr'' := hr' w
    have hm : Nat.mul q s = q * s := rfl
    rw [hm] at hr''
    simp [Instr.index, asIntOf, run_underlying hu w, e1, e2, hlt, sizeT_run hs w, hr'']
  | extract t i =>
    simp only [apure] at h
    split at h <;> first | (cases h; done) | skip
    obtain ⟨y, hy, hr⟩ := hv.one
    simp [Op.operands] at hy
    unfold VR at hr
    obtain ⟨ar, rfl, hc⟩ := hr
    obtain ⟨u, hu, hr'⟩ := hc.get h
    rw [Array.getElem?_toList] at hu
    exact ⟨u, hr', fun w => by simp [Instr.extract, hy, hu]⟩
  | makeInterface t x =>
    simp only [apure] at h
    split at h <;> first | (cases h; done) | skip
    split at h <;> first | (cases h; done) | skip
    rename_i v d hd hu
    simp only [Option.some.injEq] at h; subst h
    obtain ⟨y, hy, hr⟩ := hv.one
    simp [Op.operands] at hy
    refine ⟨.iface t y, by unfold VR; exact ⟨y, rfl, hr⟩, fun w => ?_⟩
    have : (Instr.makeInterface t y).run P w = .ok (.iface t y) w := by
      unfold Instr.makeInterface
      rw [Sem.run_bind, run_underlying hu w]
      simp only [Result.andThen_ok]
      first
        | rfl
        | (split
           · exact absurd rfl (hd _)
           · rfl)
    simp [hy, this]
  | call c =>
    simp only [apure] at h
    obtain ⟨callee, args, argTypes⟩ := c
    cases callee with
    | builtin b =>
      have hop : (Op.call ⟨.builtin b, args, argTypes⟩).operands = args := by simp [Op.operands, Call.operands]
      rw [hop] at hv
      cases b <;> first
        | (cases h; done)
        | skip
      · dsimp only at h
        split at h <;> first | (cases h; done) | skip
        obtain ⟨y, ys, hy, h1, h2⟩ := hv.uncons
        obtain ⟨u, hu, hr⟩ := afold_sound (P := P) true h h1 h2
        refine ⟨u, hu, fun w => ?_⟩
        have := hr w
        simp only [if_true] at this
        have this : (List.foldlM Builtin.max2 y ys : Sem Value).run P w = .ok u w := this
        simp only [resolve, invoke, builtin, Sem.run_bind, Sem.run_pure, Result.andThen_ok, Builtin.max_, Array.toList_map, hy]
        rw [this]
        rfl
      · dsimp only at h
        split at h <;> first | (cases h; done) | skip
        obtain ⟨y, ys, hy, h1, h2⟩ := hv.uncons
        obtain ⟨u, hu, hr⟩ := afold_sound (P := P) false h h1 h2
        refine ⟨u, hu, fun w => ?_⟩
        have := hr w
        simp only [Bool.false_eq_true, if_false] at this
        have this : (List.foldlM Builtin.min2 y ys : Sem Value).run P w = .ok u w := this
        simp only [resolve, invoke, builtin, Sem.run_bind, Sem.run_pure, Result.andThen_ok, Builtin.min_, Array.toList_map, hy]
        rw [this]
        rfl
    | _ => cases h
  | _ => simp [apure] at h
end
end Go.Proofs.Ytigakendeghoaaa.Ex
