/-
  Texts of this claim, joined. No condition.
-/
import Derived.Test.YtfgomgodfcdijaaGreatDoorKn10
/-
  The runner: closed calls; calls whose numbers are not known, question by question. No condition.
-/
namespace Go.Proofs.YtfgomgodfcdijaaGreatDoor.Ex
open Go
section
variable {P : Program} {gs : List (Nat × List Int)} {σ : Nat → Int}
theorem tabs_nil {w : World} : Tabs [] w := fun g l h => by cases h
theorem ov_nil : OvOk P gs σ [] := fun f xs v hf => by cases hf
/-- where a tree of questions leads to none of its ends -/
def BadP (σ : Nat → Int) : DT → Prop
  | .leaf | .is _ => False
  | .bad => True
  | .node c t e => (c.ev σ = true ∧ BadP σ t) ∨ (c.ev σ = false ∧ BadP σ e)
/-- what a tree of questions leads to -/
def Ends (σ : Nat → Int) : DT → Value → Prop
  | .leaf, x => x = .bool true
  | .is v, x => x = valOf σ v
  | .bad, _ => False
  | .node c t e, x => (c.ev σ = true ∧ Ends σ t x) ∨ (c.ev σ = false ∧ Ends σ e x)
theorem tree_ends (hm : P.follows .mixedOrders = true) {ov : Ov} (hov : OvOk P gs σ ov) {n : Nat} {f : FuncId} {args : List AV} (ha : AV.shuts args = true) : ∀ (d : DT) (fs : List (Cnd × Bool)), (∀ f ∈ fs, f.1.ev σ = f.2) → tree P gs ov n f args d fs = true → ¬ BadP σ d →
    ∀ w, Tabs gs w → Calls P f (valsOf σ args).toArray w fun e w' => (∃ x, e = .returned x ∧ Ends σ d x) ∧ RowKit.Below w.heap.size w w'
  | .leaf, fs, hfs, h, _, w, hg => (@runs_calls { facts := fs, globs := gs, σ := σ, ok := hfs } P hm ov hov n f args (.bool true) h ha rfl w hg (@ros_nil { facts := fs, globs := gs, σ := σ, ok := hfs } w rfl)).mono fun _ _ h => ⟨⟨_, h.1, rfl⟩, h.2⟩
  | .is v, fs, hfs, h, _, w, hg => by
    unfold tree at h
    split at h <;> first | (cases h; done) | skip
    rename_i hv
    exact (@runs_calls { facts := fs, globs := gs, σ := σ, ok := hfs } P hm ov hov n f args v h ha hv w hg (@ros_nil { facts := fs, globs := gs, σ := σ, ok := hfs } w rfl)).mono fun _ _ h => ⟨⟨_, h.1, rfl⟩, h.2⟩
  | .bad, _, _, _, hb, _, _ => absurd trivial hb
  | .node c t e, fs, hfs, h, hb, w, hg => by
    unfold tree at h
    split at h <;> first | (cases h; done) | skip
    rename_i ht
    cases hc : c.ev σ with
    | true =>
      refine (tree_ends hm hov ha t ((c, true) :: fs) (fun f hf => by rcases List.mem_cons.1 hf with rfl | hf; exact hc; exact hfs f hf) ht (fun hx => hb (.inl ⟨hc, hx⟩)) w hg).mono ?_
      rintro _ _ ⟨⟨x, rfl, hx⟩, h2⟩
      exact ⟨⟨x, rfl, .inl ⟨hc, hx⟩⟩, h2⟩
    | false =>
      refine (tree_ends hm hov ha e ((c, false) :: fs) (fun f hf => by rcases List.mem_cons.1 hf with rfl | hf; exact hc; exact hfs f hf) h (fun hx => hb (.inr ⟨hc, hx⟩)) w hg).mono ?_
      rintro _ _ ⟨⟨x, rfl, hx⟩, h2⟩
      exact ⟨⟨x, rfl, .inr ⟨hc, hx⟩⟩, h2⟩
/-- no end but true -/
def DT.plain : DT → Bool
  | .leaf | .bad => true
  | .is _ => false
  | .node _ t e => t.plain && e.plain
theorem ends_plain : ∀ {d : DT} {x : Value}, d.plain = true → Ends σ d x → x = .bool true
  | .leaf, _, _, h => h
  | .bad, _, _, h => h.elim
  | .is _, _, hp, _ => by cases hp
  | .node c t e, x, hp, h => by
    unfold DT.plain at hp
    rw [Bool.and_eq_true] at hp
    rcases h with ⟨_, h⟩ | ⟨_, h⟩
    · exact ends_plain hp.1 h
    · exact ends_plain hp.2 h
theorem tree_calls (hm : P.follows .mixedOrders = true) {ov : Ov} (hov : OvOk P gs σ ov) {n : Nat} {f : FuncId} {args : List AV} (ha : AV.shuts args = true) (d : DT) (hp : d.plain = true) (h : tree P gs ov n f args d [] = true) (hb : ¬ BadP σ d) (w : World) (hg : Tabs gs w) :
    Calls P f (valsOf σ args).toArray w fun e w' => e = .returned (.bool true) ∧ RowKit.Below w.heap.size w w' := by
  refine (tree_ends hm hov ha d [] (by simp) h hb w hg).mono ?_
  rintro _ _ ⟨⟨x, rfl, hx⟩, h2⟩
  rw [ends_plain hp hx]
  exact ⟨rfl, h2⟩
/-- A CALL WITHOUT ARGUMENTS -/
theorem leaf_calls (hm : P.follows .mixedOrders = true) {ov : Ov} (hov : OvOk P gs σ ov) {n : Nat} {f : FuncId} (h : tree P gs ov n f [] .leaf [] = true) (w : World) (hg : Tabs gs w) : Calls P f #[] w fun e w' => e = .returned (.bool true) ∧ RowKit.Below w.heap.size w w' :=
  tree_calls hm hov rfl .leaf rfl h (fun h => h) w hg
theorem yes_calls (hm : P.follows .mixedOrders = true) {n : Nat} {f : FuncId} (h : yes P n f = true) (w : World) : Calls P f #[] w fun e w' => e = .returned (.bool true) ∧ RowKit.Below w.heap.size w w' :=
  leaf_calls (gs := []) (σ := fun _ => 0) hm ov_nil h w tabs_nil
/-- one more call that is known -/
theorem ov_cons {ov : Ov} {f : FuncId} {xs : List AV} {v : AV} (hov : OvOk P gs σ ov) (ha : AV.shuts xs = true) (hv : v.shut = true) (hf : FnOk P f) (hc : ∀ w, Tabs gs w → Calls P f (valsOf σ xs).toArray w fun e w' => e = .returned (valOf σ v) ∧ RowKit.Below w.heap.size w w') : OvOk P gs σ ((f, xs, v) :: ov) := by
  intro g xs' v' hm
  rcases List.mem_cons.1 hm with he | he
  · simp only [Prod.mk.injEq] at he
    obtain ⟨rfl, rfl, rfl⟩ := he
    exact ⟨ha, hv, hf, hc⟩
  · exact hov g xs' v' he
/-- .. by a run -/
theorem ov_run (hm : P.follows .mixedOrders = true) {ov : Ov} (hov : OvOk P gs σ ov) {n : Nat} {f : FuncId} (hf : FnOk P f) (h : tree P gs ov n f [] .leaf [] = true) : OvOk P gs σ ((f, [], .bool true) :: ov) :=
  ov_cons hov rfl rfl hf fun w hg => leaf_calls hm hov h w hg
end
end Go.Proofs.YtfgomgodfcdijaaGreatDoor.Ex

/-
  The runner, piece by piece: so many rounds of a loop at once; calls that are known at a memory. No condition.
-/
namespace Go.Proofs.YtfgomgodfcdijaaGreatDoor.Ex
open Go
noncomputable section
/-- so many rounds of a loop, none of which leaves it -/
def itr (body : T AV → AH → Option (AX × T AV × AH)) : Nat → T AV → AH → Option (T AV × AH)
  | 0, env, h => some (env, h)
  | n + 1, env, h => match body env h with
    | some (.normal, env', h') => itr body n env' h'
    | _ => none
theorem iter_itr {body : T AV → AH → Option (AX × T AV × AH)} {n : Nat} : ∀ {k : Nat} {env env' : T AV} {h h' : AH}, itr body k env h = some (env', h') → iter body (k + n) env h = iter body n env' h'
  | 0, env, env', h, h', he => by
    simp only [itr, Option.some.injEq, Prod.mk.injEq] at he
    obtain ⟨rfl, rfl⟩ := he
    rw [Nat.zero_add]
  | k + 1, env, env', h, h', he => by
    unfold itr at he
    split at he <;> first | (cases he; done) | skip
    rename_i e1 h1 hb
    rw [show k + 1 + n = (k + n) + 1 by omega]
    show (match body env h with
      | some (.normal, env', h') => iter body (k + n) env' h'
      | r => r) = _
    rw [hb]
    exact iter_itr he
theorem itr_add {body : T AV → AH → Option (AX × T AV × AH)} {n : Nat} : ∀ {k : Nat} {env env' : T AV} {h h' : AH}, itr body k env h = some (env', h') → itr body (k + n) env h = itr body n env' h'
  | 0, env, env', h, h', he => by
    simp only [itr, Option.some.injEq, Prod.mk.injEq] at he
    obtain ⟨rfl, rfl⟩ := he
    rw [Nat.zero_add]
  | k + 1, env, env', h, h', he => by
    unfold itr at he
    split at he <;> first | (cases he; done) | skip
    rename_i e1 h1 hb
    rw [show k + 1 + n = (k + n) + 1 by omega]
    show (match body env h with
      | some (.normal, env', h') => itr body (k + n) env' h'
      | _ => none) = _
    rw [hb]
    exact itr_add he
/-- a piece of a text -/
def sub : List Bool → Code → Code
  | [], c => c
  | false :: p, .seq x _ => sub p x
  | true :: p, .seq _ y => sub p y
  | false :: p, .cond _ x _ => sub p x
  | true :: p, .cond _ _ y => sub p y
  | _ :: p, .block _ c => sub p c
  | _ :: p, .loop c => sub p c
  | _ :: p, .scope c => sub p c
  | _, c => c
def bodyAt (P : Program) (f : Nat) (p : List Bool) : Code := match P.funcs[f]? with
  | some fn => match fn.body with
    | some c => sub p c
    | none => .skip
  | none => .skip
/-! one call, whatever is known of the calls in it -/
section
variable [Fc] (P : Program)
def call1 (call : FuncId → List AV → AH → Option (AV × AH)) (f : FuncId) (args : List AV) (h : AH) : Option (AV × AH) := match P.funcs[f]? with
  | none => none
  | some fn => match fn.name == "runtime.NumGoroutine" with
    | true => none
    | false => match fn.body with
      | none => none
      | some c => match Nat.ble args.length fn.ntmps && Nat.ble fn.ntmps 1000000 with
        | false => none
        | true => match exec P call fn.ntmps c (envOf 0 args .e) h with
          | some (.exit _, _, _) => none
          | some (_, env', h') => match ress P h' env' fn.results.toList with
            | some vs => some (resOf vs, h')
            | none => none
          | none => none
end
section
variable [Nums] {P : Program}
theorem call1_sound (hm : P.follows .mixedOrders = true) {call : FuncId → List AV → AH → Option (AV × AH)} (hc : CallS P call) : CallS P (call1 P call) := fun f args h v h' he => by
  unfold call1 at he
  split at he <;> first | (cases he; done) | skip
  rename_i fn hf
  split at he <;> first | (cases he; done) | skip
  rename_i hname
  split at he <;> first | (cases he; done) | skip
  rename_i c hb
  split at he <;> first | (cases he; done) | skip
  rename_i hle
  rw [Bool.and_eq_true] at hle
  have hle := Nat.le_of_ble_eq_true hle.1
  refine ⟨⟨fn, c, hf, hname, hb⟩, fun ρ w args' hH hargs => ?_⟩
  have hal : args.length = args'.size := by simpa using hargs.len
  have hE : ER ρ (envOf 0 args .e) fn.ntmps { tmps := args' ++ Array.replicate (fn.ntmps - args'.size) undef, defers := [] } := by
    refine ⟨rfl, by simp; omega, fun t v hv => ?_⟩
    rcases envOf_get hv with ⟨_, h1⟩ | h1
    · rw [Nat.sub_zero] at h1
      obtain ⟨x, hx, hr⟩ := hargs.get h1
      refine ⟨x, ?_, hr⟩
      have hlt := (List.getElem?_eq_some_iff.1 hx).1
      rw [Array.getElem?_append_left (by simpa using hlt)]
      simpa using hx
    · rw [T.get_e] at h1; cases h1
  split at he <;> first | (cases he; done) | skip
  rename_i x env' h1 hno hx
  split at he <;> first | (cases he; done) | skip
  rename_i vs hvs
  simp only [Option.some.injEq, Prod.mk.injEq] at he
  obtain ⟨rfl, rfl⟩ := he
  refine calls_of_wp hf hb (wp_mono (exec_wp hm hc c _ _ _ _ _ hx ρ w _ hE hH) ?_)
  rintro e a1 w1 ⟨rfl, ρ1, hst, hE1⟩
  obtain ⟨y, hy, hrun⟩ := results_sound (fn := fn) hst.hr hE1 hvs
  cases x with
  | exit id => exact absurd rfl (hno id)
  | normal => exact ⟨hE1.dz, y, hrun, ρ1, y, rfl, hy, hst⟩
  | ret => exact ⟨hE1.dz, y, hrun, ρ1, y, rfl, hy, hst⟩
/-! equal memories -/
def optBeq {α : Type} (f : α → α → Bool) : Option α → Option α → Bool
  | none, none => true
  | some a, some b => f a b
  | _, _ => false
def T.beq {α : Type} (f : α → α → Bool) : T α → T α → Bool
  | .e, .e => true
  | .n l v r, .n l' v' r' => T.beq f l l' && (optBeq f v v' && T.beq f r r')
  | _, _ => false
def natsBeq : List Nat → List Nat → Bool
  | [], [] => true
  | a :: l, b :: m => Nat.beq a b && natsBeq l m
  | _, _ => false
def prsBeq : List (AV × AV) → List (AV × AV) → Bool
  | [], [] => true
  | (a, b) :: l, (c, d) :: m => AV.beq a c && (AV.beq b d && prsBeq l m)
  | _, _ => false
def AO.beq : AO → AO → Bool
  | .cells c k e, .cells c' k' e' => T.beq AV.beq c c' && (Nat.beq k k' && Nat.beq e e')
  | .map es bs ck, .map es' bs' ck' => prsBeq es es' && (natsBeq bs bs' && Nat.beq ck ck')
  | _, _ => false
def AH.beq : AH → AH → Bool
  | .mk m n, .mk m' n' => Nat.beq n n' && T.beq AO.beq m m'
omit [Nums] in
theorem optBeq_eq {α : Type} {f : α → α → Bool} (hf : ∀ {a b}, f a b = true → a = b) : ∀ {a b : Option α}, optBeq f a b = true → a = b
  | none, none, _ => rfl
  | some a, some b, h => by rw [hf h]
  | none, some _, h => by cases h
  | some _, none, h => by cases h
omit [Nums] in
theorem T.beq_eq {α : Type} {f : α → α → Bool} (hf : ∀ {a b}, f a b = true → a = b) : ∀ {a b : T α}, T.beq f a b = true → a = b
  | .e, .e, _ => rfl
  | .n l v r, .n l' v' r', h => by
    unfold T.beq at h
    simp only [Bool.and_eq_true] at h
    rw [T.beq_eq hf h.1, optBeq_eq hf h.2.1, T.beq_eq hf h.2.2]
  | .e, .n .., h => by cases h
  | .n .., .e, h => by cases h
omit [Nums] in
theorem natsBeq_eq : ∀ {a b : List Nat}, natsBeq a b = true → a = b
  | [], [], _ => rfl
  | a :: l, b :: m, h => by
    unfold natsBeq at h
    rw [Bool.and_eq_true] at h
    rw [Nat.eq_of_beq_eq_true h.1, natsBeq_eq h.2]
  | [], _ :: _, h => by cases h
  | _ :: _, [], h => by cases h
omit [Nums] in
theorem prsBeq_eq : ∀ {a b : List (AV × AV)}, prsBeq a b = true → a = b
  | [], [], _ => rfl
  | (a, b) :: l, (c, d) :: m, h => by
    unfold prsBeq at h
    simp only [Bool.and_eq_true] at h
    rw [AV.beq_eq h.1, AV.beq_eq h.2.1, prsBeq_eq h.2.2]
  | [], _ :: _, h => by cases h
  | _ :: _, [], h => by cases h
omit [Nums] in
theorem AO.beq_eq {a b : AO} (h : AO.beq a b = true) : a = b := by
  unfold AO.beq at h
  split at h
  · simp only [Bool.and_eq_true] at h
    rw [T.beq_eq AV.beq_eq h.1, Nat.eq_of_beq_eq_true h.2.1, Nat.eq_of_beq_eq_true h.2.2]
  · simp only [Bool.and_eq_true] at h
    rw [prsBeq_eq h.1, natsBeq_eq h.2.1, Nat.eq_of_beq_eq_true h.2.2]
  · cases h
omit [Nums] in
theorem AH.beq_eq : ∀ {a b : AH}, AH.beq a b = true → a = b
  | .mk m n, .mk m' n', h => by
    unfold AH.beq at h
    rw [Bool.and_eq_true] at h
    rw [Nat.eq_of_beq_eq_true h.1, T.beq_eq AO.beq_eq h.2]
/-- calls that are known at a memory -/
structure Bg where
  f : Nat
  args : List AV
  h : AH
  res : AV
  h' : AH
def bgAt (f : Nat) (args : List AV) (h : AH) : List Bg → Option (AV × AH)
  | [] => none
  | b :: l => match Nat.beq b.f f && (AV.beqs b.args args && AH.beq b.h h) with
    | true => some (b.res, b.h')
    | false => bgAt f args h l
omit [Nums] in
theorem bgAt_mem {f : Nat} {args : List AV} {h h' : AH} {v : AV} : ∀ {bg : List Bg}, bgAt f args h bg = some (v, h') → ∃ b ∈ bg, b.f = f ∧ b.args = args ∧ b.h = h ∧ b.res = v ∧ b.h' = h'
  | [], he => by cases he
  | b :: l, he => by
    unfold bgAt at he
    split at he
    · rename_i hb
      simp only [Bool.and_eq_true] at hb
      simp only [Option.some.injEq, Prod.mk.injEq] at he
      exact ⟨b, List.mem_cons_self, Nat.eq_of_beq_eq_true hb.1, AV.beqs_eq hb.2.1, AH.beq_eq hb.2.2, he.1, he.2⟩
    · obtain ⟨c, h1, h2⟩ := bgAt_mem he
      exact ⟨c, List.mem_cons_of_mem _ h1, h2⟩
def callB (bg : List Bg) (call : FuncId → List AV → AH → Option (AV × AH)) (f : FuncId) (args : List AV) (h : AH) : Option (AV × AH) := match bgAt f args h bg with
  | some r => some r
  | none => call f args h
theorem callB_sound {call : FuncId → List AV → AH → Option (AV × AH)} (hc : CallS P call) {bg : List Bg} (hb : ∀ b ∈ bg, call b.f b.args b.h = some (b.res, b.h')) : CallS P (callB bg call) := fun f args h v h' he => by
  unfold callB at he
  split at he
  · rename_i r hr
    simp only [Option.some.injEq] at he
    subst he
    obtain ⟨b, hm, rfl, rfl, rfl, rfl, rfl⟩ := bgAt_mem hr
    exact hc _ _ _ _ _ (hb b hm)
  · exact hc _ _ _ _ _ he
end
end
end Go.Proofs.YtfgomgodfcdijaaGreatDoor.Ex

/-
  The runner, piece by piece: between pieces, blocks and slots may be forgotten. No condition.
-/
namespace Go.Proofs.YtfgomgodfcdijaaGreatDoor.Ex
open Go
noncomputable section
/-! a table within another one -/
def T.le {α : Type} (f : α → α → Bool) : T α → T α → Bool
  | .e, _ => true
  | .n l v r, .n l' v' r' => T.le f l l' && ((match v, v' with
    | none, _ => true
    | some a, some b => f a b
    | some _, none => false) && T.le f r r')
  | .n .., .e => false
theorem T.le_getP {α : Type} {f : α → α → Bool} (hf : ∀ {a b}, f a b = true → a = b) : ∀ {t t' : T α}, T.le f t t' = true → ∀ (p : Ps) {a : α}, T.getP p t = some a → T.getP p t' = some a
  | .e, t', _, p, a, h => by
    cases p <;> exact absurd h (by simp [T.getP])
  | .n l v r, .e, hl, p, a, h => by cases hl
  | .n l v r, .n l' v' r', hl, p, a, h => by
    unfold T.le at hl
    simp only [Bool.and_eq_true] at hl
    obtain ⟨h1, h2, h3⟩ := hl
    cases p with
    | x => exact absurd h (by simp [T.getP])
    | h =>
      have hv : v = some a := h
      subst hv
      show v' = some a
      cases v' with
      | none => cases h2
      | some b => rw [hf h2]
    | o p => exact T.le_getP hf h3 p (show T.getP p r = some a from h)
    | i p => exact T.le_getP hf h1 p (show T.getP p l = some a from h)
def AH.le : AH → AH → Bool
  | .mk m n, .mk m' n' => Nat.beq n n' && T.le AO.beq m m'
theorem AH.le_get : ∀ {h h' : AH}, AH.le h h' = true → h.next = h'.next ∧ ∀ n o, h.get n = some o → h'.get n = some o
  | .mk m n, .mk m' n', hl => by
    unfold AH.le at hl
    rw [Bool.and_eq_true] at hl
    exact ⟨Nat.eq_of_beq_eq_true hl.1, fun k o hk => T.le_getP AO.beq_eq hl.2 (toPs 20 k) hk⟩
section
variable [Nums] {P : Program} {nt : Nat}
theorem HR.less {ρ : Ren} {g g' : Nat → Option AO} {nx : Nat} {w : World} (h : HR ρ g nx w) (hg : ∀ n o, g' n = some o → g n = some o) : HR ρ g' nx w := by
  have hs : ∀ n, (g' n).isSome = true → (g n).isSome = true := fun n hn => by
    obtain ⟨o, ho⟩ := Option.isSome_iff_exists.1 hn
    rw [hg n o ho]
    rfl
  exact ⟨h.fresh, fun n o hn => h.obj n o (hg n o hn), fun n m b s s' hn hm => h.inj n m b s s' (hs n hn) (hs m hm), h.gl, fun b l hb n s hn => h.gn b l hb n s (hs n hn), h.rl, fun b hb n s hn => h.rn b hb n s (hs n hn)⟩
theorem Stp.less {ρ : Ren} {g g' : Nat → Option AO} {nx : Nat} {w : World} (h : HR ρ g nx w) (hg : ∀ n o, g' n = some o → g n = some o) : Stp ρ g nx w ρ g' nx w := by
  have hs : ∀ n, (g' n).isSome = true → (g n).isSome = true := fun n hn => by
    obtain ⟨o, ho⟩ := Option.isSome_iff_exists.1 hn
    rw [hg n o ho]
    rfl
  exact ⟨h.less hg, fun _ _ => rfl, Nat.le_refl _, rfl, rfl, rfl, Nat.le_refl _, fun _ _ _ => rfl, fun n b s hn hr => .inr ⟨n, s, hs n hn, hr⟩, fun n _ hn => hs n hn⟩
/-- from here on the loop leads to this end -/
def RW (P : Program) (nt : Nat) (c : Code) (env : T AV) (h : AH) (x : AX) (env9 : T AV) (h9 : AH) : Prop :=
  ∃ n, ∀ (ρ : Ren) (w : World) (a : Act), ER ρ env nt a → HR ρ h.get h.next w → Code.rounds P c (PostX nt ρ h w x env9 h9) n a w
theorem rw_itr (hm : P.follows .mixedOrders = true) {call : FuncId → List AV → AH → Option (AV × AH)} (hc : CallS P call) {c : Code} {x : AX} {env1 env9 : T AV} {h1 h9 : AH} (hr : RW P nt c env1 h1 x env9 h9) :
    ∀ {k : Nat} {env : T AV} {h : AH}, itr (exec P call nt c) k env h = some (env1, h1) → RW P nt c env h x env9 h9
  | 0, env, h, he => by
    simp only [itr, Option.some.injEq, Prod.mk.injEq] at he
    obtain ⟨rfl, rfl⟩ := he
    exact hr
  | k + 1, env, h, he => by
    unfold itr at he
    split at he <;> first | (cases he; done) | skip
    rename_i e2 h2 hb
    obtain ⟨n, hn⟩ := rw_itr hm hc hr he
    refine ⟨n + 1, fun ρ w a hE hH => ?_⟩
    rw [rounds_succ]
    refine wp_mono (exec_wp hm hc c _ _ _ _ _ hb ρ w a hE hH) ?_
    rintro e a1 w1 ⟨rfl, ρ1, hst, hE1⟩
    refine rounds_mono (fun e a' w' hq => ?_) _ _ _ (hn ρ1 w1 a1 hE1 hst.hr)
    obtain ⟨q1, ρ2, q2, q3⟩ := hq
    exact ⟨q1, ρ2, hst.trans q2, q3⟩
/-- the last rounds -/
theorem rw_end (hm : P.follows .mixedOrders = true) {call : FuncId → List AV → AH → Option (AV × AH)} (hc : CallS P call) {c : Code} {x : AX} {env env9 : T AV} {h h9 : AH} {n : Nat} (he : iter (exec P call nt c) n env h = some (x, env9, h9)) : RW P nt c env h x env9 h9 :=
  ⟨n, fun ρ w a hE hH => iter_wp (exec_wp hm hc c) n _ _ _ _ _ he ρ w a hE hH⟩
/-- blocks, and slots, may be forgotten -/
theorem RW.less {c : Code} {x : AX} {env env1 env9 : T AV} {h h1 h9 : AH} (hr : RW P nt c env1 h1 x env9 h9) (hh : AH.le h1 h = true) (he : T.le AV.beq env1 env = true) : RW P nt c env h x env9 h9 := by
  obtain ⟨n, hn⟩ := hr
  obtain ⟨hx, hg⟩ := AH.le_get hh
  refine ⟨n, fun ρ w a hE hH => ?_⟩
  have hS : Stp ρ h.get h.next w ρ h1.get h1.next w := by
    rw [hx]
    exact Stp.less hH hg
  have hE1 : ER ρ env1 nt a := ⟨hE.dz, hE.size, fun t v hv => hE.val t v (T.le_getP AV.beq_eq he (toPs 20 t) hv)⟩
  refine rounds_mono (fun e a' w' hq => ?_) _ _ _ (hn ρ w a hE1 hS.hr)
  obtain ⟨q1, ρ2, q2, q3⟩ := hq
  exact ⟨q1, ρ2, hS.trans q2, q3⟩
/-- the loop as a whole -/
theorem RW.loop {c : Code} {x : AX} {env env9 : T AV} {h h9 : AH} (hr : RW P nt c env h x env9 h9) (ρ : Ren) (w : World) (a : Act) (hE : ER ρ env nt a) (hH : HR ρ h.get h.next w) : (Code.loop c).wp P (PostX nt ρ h w x env9 h9) a w := by
  obtain ⟨n, hn⟩ := hr
  exact wp_loop_rounds n (hn ρ w a hE hH)
/-- what a call known at a memory means -/
def BgOk (P : Program) (bg : List Bg) : Prop := ∀ b ∈ bg, FnOk P b.f ∧ ∀ (ρ : Ren) (w : World) (args' : Array Value), HR ρ b.h.get b.h.next w → VRs ρ b.args args'.toList →
  Calls P b.f args' w fun e w' => ∃ ρ' x, e = .returned x ∧ VR ρ' b.res x ∧ Stp ρ b.h.get b.h.next w ρ' b.h'.get b.h'.next w'
theorem bg_sound {call : FuncId → List AV → AH → Option (AV × AH)} (hc : CallS P call) {bg : List Bg} (hb : BgOk P bg) : CallS P (callB bg call) := fun f args h v h' he => by
  unfold callB at he
  split at he
  · rename_i r hr
    simp only [Option.some.injEq] at he
    subst he
    obtain ⟨b, hm, rfl, rfl, rfl, rfl, rfl⟩ := bgAt_mem hr
    exact hb b hm
  · exact hc _ _ _ _ _ he
/-- a call at a memory of which blocks are forgotten ahead -/
theorem BgOk.less {b : Bg} {h : AH} (hb : BgOk P [b]) (hh : AH.le b.h h = true) : BgOk P [{ b with h := h }] := by
  intro c hc
  rw [List.mem_singleton] at hc
  subst hc
  obtain ⟨h1, h2⟩ := hb b List.mem_cons_self
  obtain ⟨hx, hg⟩ := AH.le_get hh
  refine ⟨h1, fun ρ w args' hH ha => ?_⟩
  have hS : Stp ρ h.get h.next w ρ b.h.get b.h.next w := by
    rw [hx]
    exact Stp.less hH hg
  refine (h2 ρ w args' hS.hr ha).mono ?_
  rintro e w' ⟨ρ', x, rfl, hv, hst⟩
  exact ⟨ρ', x, rfl, hv, hS.trans hst⟩
end
end
end Go.Proofs.YtfgomgodfcdijaaGreatDoor.Ex

/-
  The runner: a text with one loop whose end is known. No condition.
-/
namespace Go.Proofs.YtfgomgodfcdijaaGreatDoor.Ex
open Go
noncomputable section
/-- the text, where the loop that a path leads to is known: with at least these slots and blocks it comes to that end -/
def execL [Fc] (P : Program) (call : FuncId → List AV → AH → Option (AV × AH)) (nt : Nat) (envA : T AV) (hA : AH) (r : AX × T AV × AH) : List Bool → Code → T AV → AH → Option (AX × T AV × AH)
  | true :: p, .seq x y, env, h => match exec P call nt x env h with
    | some (.normal, env', h') => execL P call nt envA hA r p y env' h'
    | q => q
  | false :: p, .seq x y, env, h => match execL P call nt envA hA r p x env h with
    | some (.normal, env', h') => exec P call nt y env' h'
    | q => q
  | _ :: p, .block id c, env, h => match execL P call nt envA hA r p c env h with
    | some (.exit j, env', h') => match Nat.beq j id with
      | true => some (.normal, env', h')
      | false => some (.exit j, env', h')
    | q => q
  | [], .loop _, env, h => match T.le AV.beq envA env && AH.le hA h with
    | true => some r
    | false => none
  | _, _, _, _ => none
/-- the loop that a path leads to -/
def loopAt : List Bool → Code → Code
  | true :: p, .seq _ y => loopAt p y
  | false :: p, .seq x _ => loopAt p x
  | _ :: p, .block _ c => loopAt p c
  | [], .loop c => c
  | _, _ => .skip
section
variable [Nums] {P : Program} {nt : Nat}
theorem execL_wp (hm : P.follows .mixedOrders = true) {call : FuncId → List AV → AH → Option (AV × AH)} (hc : CallS P call) {envA env9 : T AV} {hA h9 : AH} {x9 : AX} : ∀ (p : List Bool) (c : Code), RW P nt (loopAt p c) envA hA x9 env9 h9 →
    ∀ {env : T AV} {h : AH} {x : AX} {env' : T AV} {h' : AH}, execL P call nt envA hA (x9, env9, h9) p c env h = some (x, env', h') → ∀ (ρ : Ren) (w : World) (a : Act), ER ρ env nt a → HR ρ h.get h.next w → c.wp P (PostX nt ρ h w x env' h') a w
  | true :: p, .seq c d, hr, env, h, x, env', h', he, ρ, w, a, hE, hH => by
    unfold execL at he
    split at he
    · rename_i env1 h1 hx
      refine wp_seq (wp_mono (exec_wp hm hc c _ _ _ _ _ hx ρ w a hE hH) ?_)
      rintro e a1 w1 ⟨rfl, ρ1, hst, hE1⟩
      refine wp_mono (execL_wp hm hc p d hr he ρ1 w1 a1 hE1 hst.hr) ?_
      rintro e a2 w2 ⟨rfl, ρ2, hst2, hE2⟩
      exact ⟨rfl, ρ2, hst.trans hst2, hE2⟩
    · rename_i hno
      refine wp_seq (wp_mono (exec_wp hm hc c _ _ _ _ _ he ρ w a hE hH) ?_)
      rintro e a1 w1 ⟨rfl, hq⟩
      exact then_of (fun hx => by subst hx; exact absurd he (hno _ _)) (fun _ => ⟨rfl, hq⟩)
  | false :: p, .seq c d, hr, env, h, x, env', h', he, ρ, w, a, hE, hH => by
    unfold execL at he
    split at he
    · rename_i env1 h1 hx
      refine wp_seq (wp_mono (execL_wp hm hc p c hr hx ρ w a hE hH) ?_)
      rintro e a1 w1 ⟨rfl, ρ1, hst, hE1⟩
      refine wp_mono (exec_wp hm hc d _ _ _ _ _ he ρ1 w1 a1 hE1 hst.hr) ?_
      rintro e a2 w2 ⟨rfl, ρ2, hst2, hE2⟩
      exact ⟨rfl, ρ2, hst.trans hst2, hE2⟩
    · rename_i hno
      refine wp_seq (wp_mono (execL_wp hm hc p c hr he ρ w a hE hH) ?_)
      rintro e a1 w1 ⟨rfl, hq⟩
      exact then_of (fun hx => by subst hx; exact absurd he (hno _ _)) (fun _ => ⟨rfl, hq⟩)
  | b :: p, .block id c, hr, env, h, x, env', h', he, ρ, w, a, hE, hH => by
    have hr : RW P nt (loopAt p c) envA hA x9 env9 h9 := by cases b <;> exact hr
    have he : (match execL P call nt envA hA (x9, env9, h9) p c env h with
      | some (.exit j, env', h') => match Nat.beq j id with
        | true => some (.normal, env', h')
        | false => some (.exit j, env', h')
      | q => q) = some (x, env', h') := by cases b <;> exact he
    split at he
    · rename_i j env1 h1 hx
      refine wp_block (wp_mono (execL_wp hm hc p c hr hx ρ w a hE hH) ?_)
      rintro e a1 w1 ⟨rfl, ρ1, hst, hE1⟩
      split at he
      · rename_i hj
        have hj := Nat.eq_of_beq_eq_true hj
        simp only [Option.some.injEq, Prod.mk.injEq] at he
        obtain ⟨rfl, rfl, rfl⟩ := he
        show (if j = id then _ else _)
        rw [if_pos hj]
        exact ⟨rfl, ρ1, hst, hE1⟩
      · rename_i hj
        simp only [Option.some.injEq, Prod.mk.injEq] at he
        obtain ⟨rfl, rfl, rfl⟩ := he
        show (if j = id then _ else _)
        rw [if_neg (fun hji => by subst hji; simp at hj)]
        exact ⟨rfl, ρ1, hst, hE1⟩
    · rename_i hno
      refine wp_block (wp_mono (execL_wp hm hc p c hr he ρ w a hE hH) ?_)
      rintro e a1 w1 ⟨rfl, hq⟩
      cases x with
      | normal => exact ⟨rfl, hq⟩
      | exit j => exact absurd he (hno _ _ _)
      | ret => exact ⟨rfl, hq⟩
  | [], .loop c, hr, env, h, x, env', h', he, ρ, w, a, hE, hH => by
    unfold execL at he
    split at he <;> first | (cases he; done) | skip
    rename_i hl
    rw [Bool.and_eq_true] at hl
    simp only [Option.some.injEq, Prod.mk.injEq] at he
    obtain ⟨rfl, rfl, rfl⟩ := he
    exact (hr.less hl.2 hl.1).loop ρ w a hE hH
  | [], .skip, _, _, _, _, _, _, he, _, _, _, _, _ | [], .label _, _, _, _, _, _, _, he, _, _, _, _, _ | [], .region .., _, _, _, _, _, _, he, _, _, _, _, _ | [], .seq .., _, _, _, _, _, _, he, _, _, _, _, _ | [], .cond .., _, _, _, _, _, _, he, _, _, _, _, _ | [], .block .., _, _, _, _, _, _, he, _, _, _, _, _ | [], .scope _, _, _, _, _, _, _, he, _, _, _, _, _ | [], .exit _, _, _, _, _, _, _, he, _, _, _, _, _ | [], .ret, _, _, _, _, _, _, he, _, _, _, _, _ | [], .goto _, _, _, _, _, _, _, he, _, _, _, _, _ | [], .rangeFunc .., _, _, _, _, _, _, he, _, _, _, _, _ | [], .refuse _, _, _, _, _, _, _, he, _, _, _, _, _ => by simp [execL] at he
  | b :: _, .skip, _, _, _, _, _, _, he, _, _, _, _, _ | b :: _, .label _, _, _, _, _, _, _, he, _, _, _, _, _ | b :: _, .region .., _, _, _, _, _, _, he, _, _, _, _, _ | b :: _, .cond .., _, _, _, _, _, _, he, _, _, _, _, _ | b :: _, .loop _, _, _, _, _, _, _, he, _, _, _, _, _ | b :: _, .scope _, _, _, _, _, _, _, he, _, _, _, _, _ | b :: _, .exit _, _, _, _, _, _, _, he, _, _, _, _, _ | b :: _, .ret, _, _, _, _, _, _, he, _, _, _, _, _ | b :: _, .goto _, _, _, _, _, _, _, he, _, _, _, _, _ | b :: _, .rangeFunc .., _, _, _, _, _, _, he, _, _, _, _, _ | b :: _, .refuse _, _, _, _, _, _, _, he, _, _, _, _, _ => by cases b <;> simp [execL] at he
/-- one call of a function with such a loop -/
def callL [Fc] (P : Program) (call : FuncId → List AV → AH → Option (AV × AH)) (envA : T AV) (hA : AH) (r : AX × T AV × AH) (p : List Bool) (f : FuncId) (args : List AV) (h : AH) : Option (AV × AH) := match P.funcs[f]? with
  | none => none
  | some fn => match fn.name == "runtime.NumGoroutine" with
    | true => none
    | false => match fn.body with
      | none => none
      | some c => match Nat.ble args.length fn.ntmps && Nat.ble fn.ntmps 1000000 with
        | false => none
        | true => match execL P call fn.ntmps envA hA r p c (envOf 0 args .e) h with
          | some (.exit _, _, _) => none
          | some (_, env', h') => match ress P h' env' fn.results.toList with
            | some vs => some (resOf vs, h')
            | none => none
          | none => none
theorem callL_bg (hm : P.follows .mixedOrders = true) {call : FuncId → List AV → AH → Option (AV × AH)} (hc : CallS P call) {envA env9 : T AV} {hA h9 : AH} {x9 : AX} {p : List Bool} {f : Nat} {fn : Func} {c : Code} (hf : P.funcs[f]? = some fn) (hb : fn.body = some c) {args : List AV} {h h' : AH} {v : AV}
    (hr : RW P fn.ntmps (loopAt p c) envA hA x9 env9 h9) (he : callL P call envA hA (x9, env9, h9) p f args h = some (v, h')) : BgOk P [⟨f, args, h, v, h'⟩] := by
  intro b hbm
  rw [List.mem_singleton] at hbm
  subst hbm
  unfold callL at he
  rw [hf] at he
  simp only at he
  split at he <;> first | (cases he; done) | skip
  rename_i hname
  rw [hb] at he
  simp only at he
  split at he <;> first | (cases he; done) | skip
  rename_i hle
  rw [Bool.and_eq_true] at hle
  have hle := Nat.le_of_ble_eq_true hle.1
  refine ⟨⟨fn, c, hf, hname, hb⟩, fun ρ w args' hH hargs => ?_⟩
  have hal : args.length = args'.size := by simpa using hargs.len
  have hE : ER ρ (envOf 0 args .e) fn.ntmps { tmps := args' ++ Array.replicate (fn.ntmps - args'.size) undef, defers := [] } := by
    refine ⟨rfl, by simp; omega, fun t v hv => ?_⟩
    rcases envOf_get hv with ⟨_, h1⟩ | h1
    · rw [Nat.sub_zero] at h1
      obtain ⟨x, hx, hr⟩ := hargs.get h1
      refine ⟨x, ?_, hr⟩
      have hlt := (List.getElem?_eq_some_iff.1 hx).1
      rw [Array.getElem?_append_left (by simpa using hlt)]
      simpa using hx
    · rw [T.get_e] at h1; cases h1
  split at he <;> first | (cases he; done) | skip
  rename_i x env' h1 hno hx
  split at he <;> first | (cases he; done) | skip
  rename_i vs hvs
  simp only [Option.some.injEq, Prod.mk.injEq] at he
  obtain ⟨rfl, rfl⟩ := he
  refine calls_of_wp hf hb (wp_mono (execL_wp hm hc p c hr hx ρ w _ hE hH) ?_)
  rintro e a1 w1 ⟨rfl, ρ1, hst, hE1⟩
  obtain ⟨y, hy, hrun⟩ := results_sound (fn := fn) hst.hr hE1 hvs
  cases x with
  | exit id => exact absurd rfl (hno id)
  | normal => exact ⟨hE1.dz, y, hrun, ρ1, y, rfl, hy, hst⟩
  | ret => exact ⟨hE1.dz, y, hrun, ρ1, y, rfl, hy, hst⟩
/-- A CALL, BY THE RUNNER, WHERE CALLS ARE KNOWN AT MEMORIES -/
def runsB [Fc] (P : Program) (bg : List Bg) (call : FuncId → List AV → AH → Option (AV × AH)) (f : FuncId) (v : AV) : Bool := match call1 P (callB bg call) f [] (.mk .e 0) with
  | some (u, _) => AV.beq u v
  | none => false
theorem runsB_calls (hm : P.follows .mixedOrders = true) {call : FuncId → List AV → AH → Option (AV × AH)} (hc : CallS P call) {bg : List Bg} (hb : BgOk P bg) {f : FuncId} {v : AV} (h : runsB P bg call f v = true) (hv : v.shut = true) (w : World) (hg : Tabs Fc.globs w) (hro : Ros w) :
    Calls P f #[] w fun e w' => e = .returned (valOf Nums.σ v) ∧ RowKit.Below w.heap.size w w' := by
  unfold runsB at h
  split at h <;> first | (cases h; done) | skip
  rename_i u h' hcl
  have h := AV.beq_eq h
  subst h
  have hH : HR (fun _ => none) (AH.mk .e 0).get (AH.mk .e 0).next w := ⟨fun _ _ => rfl, (fun n o hn => by rw [AH.get_e] at hn; cases hn), (fun n m b s s' hn => by rw [AH.get_e] at hn; cases hn), hg, (fun b l _ n s hn => by rw [AH.get_e] at hn; cases hn), hro, (fun b _ n s hn => by rw [AH.get_e] at hn; cases hn)⟩
  refine ((call1_sound hm (bg_sound hc hb) _ _ _ _ _ hcl).2 (fun _ => none) w #[] hH VRs.nil).mono ?_
  rintro e w' ⟨ρ', x, rfl, hx, hst⟩
  exact ⟨by rw [VR.shut hx hv], hst.os, hst.tape, hst.output, hst.size, fun b hb => hst.block b hb fun n s hn => by rw [AH.get_e] at hn; cases hn⟩
/-- a piece, checked -/
def okE (r : Option (T AV × AH)) (env : T AV) (h : AH) : Bool := match r with
  | some (en, g) => T.le AV.beq env en && AH.le h g
  | none => false
theorem rw_piece (hm : P.follows .mixedOrders = true) {call : FuncId → List AV → AH → Option (AV × AH)} (hc : CallS P call) {c : Code} {x : AX} {k : Nat} {env env1 env9 : T AV} {h h1 h9 : AH} (hr : RW P nt c env1 h1 x env9 h9) (he : okE (itr (exec P call nt c) k env h) env1 h1 = true) : RW P nt c env h x env9 h9 := by
  unfold okE at he
  split at he <;> first | (cases he; done) | skip
  rename_i en g hi
  rw [Bool.and_eq_true] at he
  exact rw_itr hm hc (hr.less he.2 he.1) hi
theorem BgOk.and {bg bg' : List Bg} (h : BgOk P bg) (h' : BgOk P bg') : BgOk P (bg ++ bg') := fun b hb => (List.mem_append.1 hb).elim (h b) (h' b)
end
end
end Go.Proofs.YtfgomgodfcdijaaGreatDoor.Ex
