/-
  Texts of this claim, joined. No condition.
-/
import Derived.Test.YtfgomgodfcdijaaGreatDoorKn11
import Derived.RangeFuncCalls
import Derived.RangeFuncRecord
import Derived.RangeFuncLeaves
import Derived.Test.YtfgomgodfcdijaaGreatDoorRows
import Derived.WalkKit
import Derived.WalkSpells
import Derived.WalkLawsBesides
import Derived.Deep.Draws
import Derived.Deep.QuietTactic
import Derived.BigQuiet
import Derived.Lib.Hide
import Derived.ProofKit
import Derived.Sort.AtCall
import Derived.Deep.RegionHeld3
import Derived.Deep.RegionWith
import Derived.Deep.DrawnRows
/-
  The runner: calls that a memory tells; a text in which a range over an iterator stands that yields nothing. No condition.
-/
namespace Go.Proofs.YtfgomgodfcdijaaGreatDoor.Ex
open Go
noncomputable section
abbrev Sp := FuncId → List AV → AH → Option (AV × AH)
def orSp (a b : Sp) : Sp := fun f args h => match a f args h with
  | some r => some r
  | none => b f args h
/-- the text, where a path leads to a range over an iterator that yields nothing; whether the range was come to -/
def execR [Fc] (P : Program) (call : Sp) (nt : Nat) (rng : AV → AH → Bool) : List Bool → Code → T AV → AH → Option (Bool × AX × T AV × AH)
  | [], c, env, h => match c with
    | .rangeFunc g _ _ _ => match ev env g with
      | some v => match rng v h with
        | true => some (true, .normal, env, h)
        | false => none
      | none => none
    | _ => none
  | b :: p, c, env, h => match c with
    | .seq x y => match b with
      | true => match exec P call nt x env h with
        | some (.normal, env', h') => execR P call nt rng p y env' h'
        | some q => some (false, q)
        | none => none
      | false => match execR P call nt rng p x env h with
        | some (f, .normal, env', h') => match exec P call nt y env' h' with
          | some q => some (f, q)
          | none => none
        | q => q
    | .cond q x y => match ev env q with
      | some (.bool true) => match b with
        | false => execR P call nt rng p x env h
        | true => match exec P call nt x env h with
          | some q => some (false, q)
          | none => none
      | some (.bool false) => match b with
        | true => execR P call nt rng p y env h
        | false => match exec P call nt y env h with
          | some q => some (false, q)
          | none => none
      | _ => none
    | .block id x => match execR P call nt rng p x env h with
      | some (f, .exit j, env', h') => match Nat.beq j id with
        | true => some (f, .normal, env', h')
        | false => some (f, .exit j, env', h')
      | q => q
    | _ => none
def callR [Fc] (P : Program) (call : Sp) (rng : AV → AH → Bool) (p : List Bool) (f : FuncId) (args : List AV) (h : AH) : Option (AV × AH) := match P.funcs[f]? with
  | none => none
  | some fn => match fn.name == "runtime.NumGoroutine" with
    | true => none
    | false => match fn.body with
      | none => none
      | some c => match Nat.ble args.length fn.ntmps && Nat.ble fn.ntmps 1000000 with
        | false => none
        | true => match execR P call fn.ntmps rng p c (envOf 0 args .e) h with
          | some (_, .exit _, _, _) => none
          | some (_, _, env', h') => match ress P h' env' fn.results.toList with
            | some vs => some (resOf vs, h')
            | none => none
          | none => none
def pathTo (f : Nat) : List (Nat × List Bool) → Option (List Bool)
  | [] => none
  | (g, p) :: l => match Nat.beq f g with
    | true => some p
    | false => pathTo f l
/-- calls: told by the memory, or run; gp: the functions with such a range -/
def callX [Fc] (P : Program) (sp : Sp) (rng : AV → AH → Bool) (gp : List (Nat × List Bool)) : Nat → Sp
  | 0, _, _, _ => none
  | n + 1, f, args, h => match sp f args h with
    | some r => some r
    | none => match pathTo f gp with
      | some p => callR P (callX P sp rng gp n) rng p f args h
      | none => call1 P (callX P sp rng gp n) f args h
section
variable [Nums] {P : Program} {nt : Nat}
theorem orSp_sound {a b : Sp} (ha : CallS P a) (hb : CallS P b) : CallS P (orSp a b) := fun f args h v h' he => by
  unfold orSp at he
  split at he
  · rename_i r hr
    simp only [Option.some.injEq] at he
    subst he
    exact ha _ _ _ _ _ hr
  · exact hb _ _ _ _ _ he
/-- the iterator yields nothing -/
def RngS (P : Program) (rng : AV → AH → Bool) : Prop := ∀ v h, rng v h = true → ∀ (ρ : Ren) (w : World) (x : Value), HR ρ h.get h.next w → VR ρ v x →
  ∃ gf lb, x = .func (.func gf) #[] lb ∧ (∀ args w', (callFunc gf args).run P w' = .ok (.enter gf args) w') ∧ ∀ l, Calls P gf (#[.func (.yield l) #[] #[]] ++ lb) w fun e w' => (∃ u, e = .returned u) ∧ RowKit.Below w.heap.size w w'
/-- an unnamed block behind what was there may change -/
theorem Stp.putD {ρ ρ' : Ren} {g g' : Nat → Option AO} {nx nx' D : Nat} {w w' : World} {o : Obj} (h0 : HR ρ g nx w) (k : Stp ρ g nx w ρ' g' nx' w') (hD : w.heap.size ≤ D) (hn : ∀ n s, (g' n).isSome = true → ρ' n ≠ some (D, s)) : Stp ρ g nx w ρ' g' nx' (w'.putObj D o) := by
  have hb : ∀ b, b < w.heap.size → (∀ n s, (g n).isSome = true → ρ n ≠ some (b, s)) → (w'.putObj D o).heap[b]? = w.heap[b]? := fun b hb hl => (World.putObj_heap_other (by omega)).trans (k.block b hb hl)
  obtain ⟨t1, t2, t3, t4⟩ := h0.tables (w' := w'.putObj D o) (g' := g') (ρ' := ρ') hb k.live
  refine ⟨⟨k.hr.fresh, fun n q hq => ?_, k.hr.inj, t1, t2, t3, t4⟩, k.ext, k.gr, k.os, k.tape, k.output, by rw [World.putObj_size]; exact k.size, hb, k.live, k.dom⟩
  obtain ⟨b, s, h1, h2⟩ := k.hr.obj n q hq
  refine ⟨b, s, h1, ?_⟩
  rw [World.putObj_heap_other (fun e => hn n s (by rw [hq]; rfl) (by rw [h1, e]))]
  exact h2
/-- how such a text ends -/
def PostR (nt : Nat) (ρ : Ren) (h : AH) (w : World) (f : Bool) (x : AX) (env' : T AV) (h' : AH) (e : Exit) (a' : Act) (w' : World) : Prop := match f with
  | false => PostX nt ρ h w x env' h' e a' w'
  | true => e = exitOf x ∧ ∃ ρ' D, Stp ρ h.get h.next w ρ' h'.get h'.next w' ∧ ERd [{ target := .collected D, args := #[] }] ρ' env' nt a' ∧ w.heap.size ≤ D ∧ w'.heap[D]? = some (.deferred (some [])) ∧ ∀ n s, (h'.get n).isSome = true → ρ' n ≠ some (D, s)
theorem PostR.then {ρ ρ1 : Ren} {h h1 h2 : AH} {w w1 w2 : World} {f : Bool} {x : AX} {env2 : T AV} {e : Exit} {a2 : Act} (k : Stp ρ h.get h.next w ρ1 h1.get h1.next w1) (hq : PostR nt ρ1 h1 w1 f x env2 h2 e a2 w2) : PostR nt ρ h w f x env2 h2 e a2 w2 := by
  cases f with
  | false =>
    obtain ⟨rfl, ρ2, k2, hE⟩ := hq
    exact ⟨rfl, ρ2, k.trans k2, hE⟩
  | true =>
    obtain ⟨rfl, ρ2, D, k2, hE, hD, hd, hn⟩ := hq
    exact ⟨rfl, ρ2, D, k.trans k2, hE, Nat.le_trans k.size hD, hd, hn⟩
theorem PostR.exit {ρ : Ren} {h h2 : AH} {w w2 : World} {f : Bool} {x : AX} {env2 : T AV} {e : Exit} {a2 : Act} (hq : PostR nt ρ h w f x env2 h2 e a2 w2) : e = exitOf x := by
  cases f <;> exact hq.1
theorem rng_wp {rng : AV → AH → Bool} (hr : RngS P rng) {g : Operand} {ps : Array Tmp} {an bd : Code} {env : T AV} {h : AH} {v : AV} (hv : ev env g = some v) (ht : rng v h = true) (ρ : Ren) (w : World) (a : Act) (hE : ER ρ env nt a) (hH : HR ρ h.get h.next w) :
    (Code.rangeFunc g ps an bd).wp P (PostR nt ρ h w true .normal env h) a w := by
  obtain ⟨y, hy, hxv⟩ := (evs_rel (ρ := ρ) (a := a) (l := [g]) (vs := [v]) (fun t v _ hv => hE.val t v hv) (by simp [evs, hv])).one
  simp at hy
  refine (wpIn_wide (n := 1)).1 (wpIn_rangeFunc fun fn hfn => ?_)
  obtain ⟨W1, hW1⟩ : ∃ W1, (w.alloc (.deferred (some []))).alloc (.loop { state := .ready, pending := none, fn, tmps := a.tmps, params := ps, assign := an, body := bd, defers := w.heap.size }) = W1 := ⟨_, rfl⟩
  have hL1 : W1.heap[w.heap.size + 1]? = some (.loop { state := .ready, pending := none, fn, tmps := a.tmps, params := ps, assign := an, body := bd, defers := w.heap.size }) := by
    rw [← hW1]; have := World.alloc_heap_new (w.alloc (.deferred (some []))) (.loop { state := .ready, pending := none, fn, tmps := a.tmps, params := ps, assign := an, body := bd, defers := w.heap.size }); rwa [World.size_alloc] at this
  have hK1 : W1.heap[w.heap.size]? = some (.deferred (some [])) := by
    rw [← hW1]; exact (RowKit.Below.heap_alloc _ _ _ (by simp)).trans (World.alloc_heap_new w _)
  have hb1 : RowKit.Below w.heap.size w W1 := by
    rw [← hW1]; exact ((RowKit.Below.refl _ w).alloc (Nat.le_refl _) _).alloc (by simp) _
  have hs1 : W1.heap.size = w.heap.size + 2 := by rw [← hW1]; simp
  have hH1 : HR ρ h.get h.next W1 := (Stp.left hH hb1).hr
  obtain ⟨gf, lb, hx, heg, hc⟩ := hr v h ht ρ W1 y hH1 hxv
  subst hx
  refine ⟨w.heap.size + 1, [{ target := .collected w.heap.size, args := #[] }], W1, { target := .fn (.func gf) lb, args := #[.func (.yield (w.heap.size + 1)) #[] #[]] }, W1, gf, #[.func (.yield (w.heap.size + 1)) #[] #[]] ++ lb, W1, ?_, ?_, fun _ _ => trivial, ?_, fun _ => Nat.le_refl _, ?_⟩
  · rw [← hW1]; exact run_enterLoop_outer _ _ _ _ _
  · simp only [resolve, hy]
    simp [go_sem]
  · simp [invoke, go_sem, heg]
  · refine (callsIn_wide.2 (hc _)).mono ?_
    rintro e W2 ⟨⟨u, rfl⟩, hb2⟩
    have hL2 : W2.heap[w.heap.size + 1]? = some (.loop { state := .ready, pending := none, fn, tmps := a.tmps, params := ps, assign := an, body := bd, defers := w.heap.size }) := (hb2.block _ (by omega)).trans hL1
    have hK2 : W2.heap[w.heap.size]? = some (.deferred (some [])) := (hb2.block _ (by omega)).trans hK1
    have hsz : W1.heap.size ≤ W2.heap.size := hb2.size
    refine ⟨none, _, run_endLoop hL2 (by simp), ?_⟩
    have hb3 : RowKit.Below w.heap.size w (W2.putObj (w.heap.size + 1) (.loop { state := .exhausted, pending := none, fn, tmps := a.tmps, params := ps, assign := an, body := bd, defers := w.heap.size })) := by
      have hb := hb1.trans (hb2.mono hb1.size)
      exact ⟨hb.os, hb.tape, hb.output, by rw [World.putObj_size]; exact hb.size, fun b hlt => (World.putObj_heap_other (by omega)).trans (hb.block b hlt)⟩
    refine ⟨rfl, ρ, w.heap.size, Stp.left hH hb3, ⟨by show _ :: a.defers = _; rw [hE.dz], hE.size, hE.val⟩, Nat.le_refl _, (World.putObj_heap_other (by omega)).trans hK2, fun n s hn hp => ?_⟩
    obtain ⟨o, ho⟩ := Option.isSome_iff_exists.1 hn
    obtain ⟨b, s', hp', hO⟩ := hH.obj n o ho
    rw [hp] at hp'
    simp only [Option.some.injEq, Prod.mk.injEq] at hp'
    obtain ⟨rfl, rfl⟩ := hp'
    rw [Array.getElem?_eq_none (Nat.le_refl _)] at hO
    exact hO.notNone
/-- behind such a range -/
theorem after_wp (hm : P.follows .mixedOrders = true) {call : Sp} (hc : CallS P call) {c : Code} {env env' : T AV} {h h' : AH} {x : AX} (he : exec P call nt c env h = some (x, env', h')) {ρ : Ren} {w : World} {a : Act} {D : Nat}
    (hE : ERd [{ target := .collected D, args := #[] }] ρ env nt a) (hH : HR ρ h.get h.next w) (hd : w.heap[D]? = some (.deferred (some []))) (hn : ∀ n s, (h.get n).isSome = true → ρ n ≠ some (D, s)) {B : Nat} (hB : B ≤ D) :
    c.wp P (fun e a' w' => e = exitOf x ∧ ∃ ρ', Stp ρ h.get h.next w ρ' h'.get h'.next w' ∧ ERd [{ target := .collected D, args := #[] }] ρ' env' nt a' ∧ B ≤ D ∧ w'.heap[D]? = some (.deferred (some [])) ∧ ∀ n s, (h'.get n).isSome = true → ρ' n ≠ some (D, s)) a w := by
  refine wp_mono (exec_wp hm hc c _ _ _ _ _ he ρ w a hE hH) ?_
  rintro e a1 w1 ⟨rfl, ρ1, hst, hE1⟩
  have hlt : D < w.heap.size := (Array.getElem?_eq_some_iff.1 hd).1
  refine ⟨rfl, ρ1, hst, hE1, hB, (hst.block D hlt hn).trans hd, fun n s h1 h2 => ?_⟩
  rcases hst.live n D s h1 h2 with h3 | ⟨m, s', h3, h4⟩
  · omega
  · exact hn m s' h3 h4
theorem execR_wp (hm : P.follows .mixedOrders = true) {call : Sp} (hc : CallS P call) {rng : AV → AH → Bool} (hr : RngS P rng) : ∀ (p : List Bool) (c : Code) {env : T AV} {h : AH} {f : Bool} {x : AX} {env' : T AV} {h' : AH}, execR P call nt rng p c env h = some (f, x, env', h') →
    ∀ (ρ : Ren) (w : World) (a : Act), ER ρ env nt a → HR ρ h.get h.next w → c.wp P (PostR nt ρ h w f x env' h') a w
  | [], c, env, h, f, x, env', h', he, ρ, w, a, hE, hH => by
    unfold execR at he
    split at he <;> first | (cases he; done) | skip
    split at he <;> first | (cases he; done) | skip
    rename_i v hv
    split at he <;> first | (cases he; done) | skip
    rename_i ht
    simp only [Option.some.injEq, Prod.mk.injEq] at he
    obtain ⟨rfl, rfl, rfl, rfl⟩ := he
    exact rng_wp hr hv ht ρ w a hE hH
  | b :: p, c, env, h, f, x, env', h', he, ρ, w, a, hE, hH => by
    unfold execR at he
    split at he <;> first | (cases he; done) | skip
    · rename_i c1 c2
      split at he
      · split at he <;> first | (cases he; done) | skip
        · rename_i env1 h1 hx
          refine wp_seq (wp_mono (exec_wp hm hc c1 _ _ _ _ _ hx ρ w a hE hH) ?_)
          rintro e a1 w1 ⟨rfl, ρ1, hst, hE1⟩
          exact wp_mono (execR_wp hm hc hr p c2 he ρ1 w1 a1 hE1 hst.hr) fun _ _ _ hq => hq.then hst
        · rename_i q hno hx
          simp only [Option.some.injEq, Prod.mk.injEq] at he
          obtain ⟨rfl, rfl⟩ := he
          refine wp_seq (wp_mono (exec_wp hm hc c1 _ _ _ _ _ hx ρ w a hE hH) ?_)
          rintro e a1 w1 ⟨rfl, hq⟩
          exact then_of (fun hx2 => by subst hx2; exact absurd rfl (hno _ _)) (fun _ => ⟨rfl, hq⟩)
      · split at he
        · rename_i f1 env1 h1 hx
          split at he <;> first | (cases he; done) | skip
          rename_i q hq
          simp only [Option.some.injEq, Prod.mk.injEq] at he
          obtain ⟨rfl, rfl⟩ := he
          refine wp_seq (wp_mono (execR_wp hm hc hr p c1 hx ρ w a hE hH) ?_)
          intro e a1 w1 hp
          have hee := hp.exit
          subst hee
          cases f1 with
          | false =>
            obtain ⟨_, ρ1, hst, hE1⟩ := hp
            refine wp_mono (exec_wp hm hc c2 _ _ _ _ _ hq ρ1 w1 a1 hE1 hst.hr) ?_
            rintro e a2 w2 ⟨rfl, ρ2, hst2, hE2⟩
            exact ⟨rfl, ρ2, hst.trans hst2, hE2⟩
          | true =>
            obtain ⟨_, ρ1, D, hst, hE1, hD, hd, hn⟩ := hp
            refine wp_mono (after_wp hm hc hq hE1 hst.hr hd hn hD) ?_
            rintro e a2 w2 ⟨rfl, ρ2, hst2, hE2, hD2, hd2, hn2⟩
            exact ⟨rfl, ρ2, D, hst.trans hst2, hE2, hD2, hd2, hn2⟩
        · rename_i hno
          refine wp_seq (wp_mono (execR_wp hm hc hr p c1 he ρ w a hE hH) ?_)
          intro e a1 w1 hp
          have hee := hp.exit
          subst hee
          exact then_of (fun hx => by subst hx; exact absurd he (hno _ _ _)) (fun _ => hp)
    · rename_i q c1 c2
      have hev : ∀ b, ev env q = some (.bool b) → a.eval q = .bool b := by
        intro b hb
        have := evs_rel (ρ := ρ) (a := a) (l := [q]) (vs := [.bool b]) (fun t v _ hv => hE.val t v hv) (by simp [evs, hb])
        obtain ⟨y, hy, hr⟩ := this.one
        simp at hy
        unfold VR at hr
        rw [hy, hr]
      split at he <;> first | (cases he; done) | skip
      · rename_i hb
        split at he
        · exact wp_cond_true (hev _ hb) (execR_wp hm hc hr p c1 he ρ w a hE hH)
        · split at he <;> first | (cases he; done) | skip
          rename_i hx
          simp only [Option.some.injEq, Prod.mk.injEq] at he
          obtain ⟨rfl, rfl⟩ := he
          exact wp_cond_true (hev _ hb) (exec_wp hm hc c1 _ _ _ _ _ hx ρ w a hE hH)
      · rename_i hb
        split at he
        · exact wp_cond_false (hev _ hb) (execR_wp hm hc hr p c2 he ρ w a hE hH)
        · split at he <;> first | (cases he; done) | skip
          rename_i hx
          simp only [Option.some.injEq, Prod.mk.injEq] at he
          obtain ⟨rfl, rfl⟩ := he
          exact wp_cond_false (hev _ hb) (exec_wp hm hc c2 _ _ _ _ _ hx ρ w a hE hH)
    · rename_i id c1
      split at he
      · rename_i f1 j env1 h1 hx
        refine wp_block (wp_mono (execR_wp hm hc hr p c1 hx ρ w a hE hH) ?_)
        intro e a1 w1 hp
        have hee := hp.exit
        subst hee
        split at he
        · rename_i hj
          have hj := Nat.eq_of_beq_eq_true hj
          simp only [Option.some.injEq, Prod.mk.injEq] at he
          obtain ⟨rfl, rfl, rfl, rfl⟩ := he
          show (if j = id then _ else _)
          rw [if_pos hj]
          cases f1 with
          | false => exact ⟨rfl, hp.2⟩
          | true => exact ⟨rfl, hp.2⟩
        · rename_i hj
          simp only [Option.some.injEq, Prod.mk.injEq] at he
          obtain ⟨rfl, rfl, rfl, rfl⟩ := he
          show (if j = id then _ else _)
          rw [if_neg (fun hji => by subst hji; simp at hj)]
          exact hp
      · rename_i hno
        refine wp_block (wp_mono (execR_wp hm hc hr p c1 he ρ w a hE hH) ?_)
        intro e a1 w1 hp
        have hee := hp.exit
        subst hee
        cases x with
        | normal => exact hp
        | exit j => exact absurd he (hno _ _ _ _)
        | ret => exact hp
theorem callR_sound (hm : P.follows .mixedOrders = true) {call : Sp} (hc : CallS P call) {rng : AV → AH → Bool} (hr : RngS P rng) (p : List Bool) : CallS P (callR P call rng p) := fun f args h v h' he => by
  unfold callR at he
  split at he <;> first | (cases he; done) | skip
  rename_i fn hf
  split at he <;> first | (cases he; done) | skip
  rename_i hname
  split at he <;> first | (cases he; done) | skip
  rename_i c hb
  split at he <;> first | (cases he; done) | skip
  rename_i hle
  rw [Bool.and_eq_true] at hle
  have hle := Nat.le_of_ble_eq_true hle.1
  refine ⟨⟨fn, c, hf, hname, hb⟩, fun ρ w args' hH hargs => ?_⟩
  have hal : args.length = args'.size := by simpa using hargs.len
  have hE : ER ρ (envOf 0 args .e) fn.ntmps { tmps := args' ++ Array.replicate (fn.ntmps - args'.size) undef, defers := [] } := by
    refine ⟨rfl, by simp; omega, fun t v hv => ?_⟩
    rcases envOf_get hv with ⟨_, h1⟩ | h1
    · rw [Nat.sub_zero] at h1
      obtain ⟨x, hx, hr⟩ := hargs.get h1
      refine ⟨x, ?_, hr⟩
      have hlt := (List.getElem?_eq_some_iff.1 hx).1
      rw [Array.getElem?_append_left (by simpa using hlt)]
      simpa using hx
    · rw [T.get_e] at h1; cases h1
  split at he <;> first | (cases he; done) | skip
  rename_i fl x env' h1 hno hx
  split at he <;> first | (cases he; done) | skip
  rename_i vs hvs
  simp only [Option.some.injEq, Prod.mk.injEq] at he
  obtain ⟨rfl, rfl⟩ := he
  refine (callsIn_wide (n := 1)).1 (callsIn_of_wp_marks hf hb trivial (wpIn_wide.2 (wp_mono (execR_wp hm hc hr p c hx ρ w _ hE hH) ?_)) rfl)
  intro e a1 w1 hp
  have hee := hp.exit
  subst hee
  have hgo : ∀ (Q : Exit → Prop), (Q .normal) → (Q .ret) → Q (exitOf x) := fun Q h1 h2 => by
    cases x with
    | normal => exact h1
    | exit id => exact absurd rfl (hno id)
    | ret => exact h2
  have key : LeavesInM Fence.wide 1 P fn a1.tmps (fun e w' => ∃ ρ' x, e = .returned x ∧ VR ρ' (resOf vs) x ∧ Stp ρ h.get h.next w ρ' h1.get h1.next w') a1.defers .returning w1 := by
    cases fl with
    | false =>
      obtain ⟨_, ρ1, hst, hE1⟩ := hp
      obtain ⟨y, hy, hrun⟩ := results_sound (fn := fn) hst.hr hE1 hvs
      rw [hE1.dz]
      exact ⟨y, hrun, ρ1, y, rfl, hy, hst⟩
    | true =>
      obtain ⟨_, ρ1, D, hst, hE1, hD, hd, hn⟩ := hp
      have hst2 := Stp.putD (o := .deferred none) hH hst hD hn
      obtain ⟨y, hy, hrun⟩ := results_sound (fn := fn) hst2.hr hE1 hvs
      rw [hE1.dz]
      exact ⟨by simp, .inl ⟨D, _, rfl, run_takeDeferred hd, y, hrun, ρ1, y, rfl, hy, hst2⟩⟩
  exact hgo (fun e => bodyPostM Fence.wide 1 P fn _ e a1 w1) key key
theorem callX_sound (hm : P.follows .mixedOrders = true) {sp : Sp} (hs : CallS P sp) {rng : AV → AH → Bool} (hr : RngS P rng) {gp : List (Nat × List Bool)} : ∀ n, CallS P (callX P sp rng gp n)
  | 0 => fun f args h v h' he => by simp [callX] at he
  | n + 1 => fun f args h v h' he => by
    unfold callX at he
    split at he
    · rename_i r hq
      simp only [Option.some.injEq] at he
      subst he
      exact hs _ _ _ _ _ hq
    · split at he
      · exact callR_sound hm (callX_sound hm hs hr n) hr _ _ _ _ _ _ he
      · exact call1_sound hm (callX_sound hm hs hr n) _ _ _ _ _ he
end
end
end Go.Proofs.YtfgomgodfcdijaaGreatDoor.Ex

/-
  Memory as a list of owned blocks over the memory that was there at the start. Used by all walks of this seat. No condition.
-/
namespace Go.Proofs.YtfgomgodfcdijaaGreatDoor
open Go.RowKit

/-- 'w' is 'W' with new blocks, of which the listed ones hold what is listed. -/
structure Own (W : World) (m : List (Nat × Obj)) (w : World) : Prop where
  below : Below W.heap.size W w
  at_ : ∀ p ∈ m, W.heap.size ≤ p.1 ∧ w.heap[p.1]? = some p.2
  nd : (m.map (·.1)).Nodup

theorem heap_lt {w : World} {g : Nat} {o : Obj} (h : w.heap[g]? = some o) : g < w.heap.size := by
  rcases Nat.lt_or_ge g w.heap.size with hlt | hge
  · exact hlt
  · rw [Array.getElem?_eq_none hge] at h; cases h

theorem perm_swap {α : Type} (A B C : List α) : (A ++ (B ++ C)).Perm (B ++ (A ++ C)) := by
  rw [← List.append_assoc, ← List.append_assoc]
  exact List.Perm.append_right _ List.perm_append_comm

namespace Own
variable {W w w' : World} {m m' : List (Nat × Obj)} {b i : Nat} {cs : Array Value} {t : TypeId} {o : Obj}

theorem init (W : World) : Own W [] W := ⟨Below.refl _ _, by simp, by simp⟩
theorem self (w : World) : Own w [] w := init w
theorem get (h : Own W m w) (hm : (b, o) ∈ m) : w.heap[b]? = some o := (h.at_ _ hm).2
theorem lt (h : Own W m w) (hm : (b, o) ∈ m) : b < w.heap.size := heap_lt (h.get hm)
theorem ge (h : Own W m w) (hm : (b, o) ∈ m) : W.heap.size ≤ b := (h.at_ _ hm).1
theorem cell (h : Own W m w) (hm : (b, .cells cs t) ∈ m) (i : Nat) : w.cell? ⟨b, i, none⟩ = cs[i]? := by
  simp [World.cell?, h.get hm]
theorem frozen (h : Own W m w) (hm : (b, .cells cs t) ∈ m) (i : Nat) : w.frozen? ⟨b, i, none⟩ = false := by
  simp [World.frozen?, h.get hm]
theorem old (h : Own W m w) {a : Addr} (ha : a.block < W.heap.size) : w.cell? a = W.cell? a := h.below.cell ha
theorem size_le (h : Own W m w) : W.heap.size ≤ w.heap.size := h.below.size
theorem drew (h : Own W m w) : Own W m w.drew := ⟨h.below.drew, h.at_, h.nd⟩
theorem drewN (h : Own W m w) (n : Nat) : Own W m (w.drewN n) := ⟨⟨h.below.os, h.below.tape, h.below.output, h.below.size, h.below.block⟩, h.at_, h.nd⟩
theorem perm (h : Own W m w) (hp : m.Perm m') : Own W m' w :=
  ⟨h.below, fun p hm => h.at_ p (hp.mem_iff.2 hm), (hp.map (·.1)).nodup_iff.1 h.nd⟩
theorem sub (h : Own W m w) (hs : m'.Sublist m) : Own W m' w :=
  ⟨h.below, fun p hm => h.at_ p (hs.subset hm), h.nd.sublist (hs.map _)⟩
theorem skip {x : Nat × Obj} (h : Own W (x :: m) w) : Own W m w := h.sub (List.sublist_cons_self _ _)
theorem dropL (h : Own W (m' ++ m) w) : Own W m w := h.sub (List.sublist_append_right _ _)
theorem dropR (h : Own W (m ++ m') w) : Own W m w := h.sub (List.sublist_append_left _ _)
theorem swap {m1 m2 m3 : List (Nat × Obj)} (h : Own W (m1 ++ (m2 ++ m3)) w) : Own W (m2 ++ (m1 ++ m3)) w :=
  h.perm (by rw [← List.append_assoc, ← List.append_assoc]; exact List.Perm.append_right _ List.perm_append_comm)
theorem comm {m1 m2 : List (Nat × Obj)} (h : Own W (m1 ++ m2) w) : Own W (m2 ++ m1) w := h.perm List.perm_append_comm
/-- nothing that was there has turned -/
theorem then_below (h : Own W m w) (hb : Below w.heap.size w w') : Own W m w' :=
  ⟨h.below.trans (hb.mono h.size_le), fun p hm => ⟨(h.at_ p hm).1, (hb.block p.1 (heap_lt (h.at_ p hm).2)).trans (h.at_ p hm).2⟩, h.nd⟩
theorem alloc (h : Own W m w) (o : Obj) : Own W m (w.alloc o) := h.then_below ((Below.refl _ _).alloc (Nat.le_refl _) _)
theorem new (h : Own W m w) (o : Obj) : Own W ((w.heap.size, o) :: m) (w.alloc o) :=
  ⟨(h.alloc o).below, fun p hm => by
    rcases List.mem_cons.1 hm with rfl | hm
    · exact ⟨h.size_le, heap_alloc_new w o⟩
    · exact (h.alloc o).at_ p hm, by
    simp only [List.map_cons, List.nodup_cons]
    refine ⟨fun hin => ?_, h.nd⟩
    obtain ⟨p, hp, he⟩ := List.mem_map.1 hin
    have := heap_lt (h.at_ p hp).2
    omega⟩
theorem set (h : Own W ((b, .cells cs t) :: m) w) (i : Nat) (v : Value) : Own W ((b, .cells (cs.setIfInBounds i v) t) :: m) (w.setCell ⟨b, i, none⟩ v) := by
  have hg := h.get (List.mem_cons_self)
  have hge := h.ge (List.mem_cons_self)
  refine ⟨h.below.setCell hge v, fun p hm => ?_, h.nd⟩
  rcases List.mem_cons.1 hm with rfl | hm
  · exact ⟨hge, by simp [World.setCell, Array.getElem?_modify, hg]⟩
  · have hne : p.1 ≠ b := fun he => by
      have := h.nd
      simp only [List.map_cons, List.nodup_cons] at this
      exact this.1 (he ▸ List.mem_map_of_mem (f := (·.1)) hm)
    exact ⟨(h.at_ p (List.mem_cons_of_mem _ hm)).1, (Below.heap_setCell w _ v p.1 hne).trans (h.at_ p (List.mem_cons_of_mem _ hm)).2⟩
theorem setIn {m1 m2 : List (Nat × Obj)} (h : Own W (m1 ++ (b, .cells cs t) :: m2) w) (i : Nat) (v : Value) :
    Own W (m1 ++ (b, .cells (cs.setIfInBounds i v) t) :: m2) (w.setCell ⟨b, i, none⟩ v) :=
  ((h.perm List.perm_middle).set i v).perm List.perm_middle.symm
theorem toBelow (h : Own w m w') : Below w.heap.size w w' := h.below
theorem of_self (h : Own W m w) (h' : Own w [] w') : Own W m w' := h.then_below h'.below
/-- what a call makes, beside what was there -/
theorem join (h : Own W m w) (h' : Own w m' w') : Own W (m' ++ m) w' := by
  have hk := h.then_below h'.below
  refine ⟨hk.below, fun p hp => ?_, ?_⟩
  · rcases List.mem_append.1 hp with hp | hp
    · exact ⟨Nat.le_trans h.size_le (h'.at_ p hp).1, (h'.at_ p hp).2⟩
    · exact hk.at_ p hp
  · rw [List.map_append, List.nodup_append]
    refine ⟨h'.nd, h.nd, fun a ha b hb => ?_⟩
    obtain ⟨p, hp, rfl⟩ := List.mem_map.1 ha
    obtain ⟨q, hq, rfl⟩ := List.mem_map.1 hb
    have h1 := (h'.at_ p hp).1
    have h2 := heap_lt (h.at_ q hq).2
    omega
theorem ne {b' : Nat} {o' : Obj} (h : Own W ((b, o) :: m) w) (hm : (b', o') ∈ m) : b' ≠ b := fun he => by
  have := h.nd
  simp only [List.map_cons, List.nodup_cons] at this
  exact this.1 (he ▸ List.mem_map_of_mem (f := (·.1)) hm)
theorem front3 {m1 m2 m3 m4 : List (Nat × Obj)} (h : Own W (m1 ++ (m2 ++ (m3 ++ m4))) w) : Own W (m3 ++ (m1 ++ (m2 ++ m4))) w :=
  h.perm ((List.Perm.append_left _ (perm_swap _ _ _)).trans (perm_swap _ _ _))
theorem dropIn {m1 m2 m3 : List (Nat × Obj)} (h : Own W (m1 ++ (m2 ++ m3)) w) : Own W (m1 ++ m3) w :=
  h.sub ((List.Sublist.refl _).append (List.sublist_append_right _ _))
theorem drop1 {x : Nat × Obj} {m1 : List (Nat × Obj)} (h : Own W (m1 ++ x :: m) w) : Own W (m1 ++ m) w :=
  h.sub ((List.Sublist.refl _).append (List.sublist_cons_self _ _))
theorem drop2 {x : Nat × Obj} {m1 m2 : List (Nat × Obj)} (h : Own W (m1 ++ (m2 ++ x :: m)) w) : Own W (m1 ++ (m2 ++ m)) w :=
  h.sub ((List.Sublist.refl _).append ((List.Sublist.refl _).append (List.sublist_cons_self _ _)))
/-- a new block behind one, or two, groups of blocks -/
theorem new1 {m1 : List (Nat × Obj)} (h : Own W (m1 ++ m) w) (o : Obj) : Own W (m1 ++ (w.heap.size, o) :: m) (w.alloc o) := (h.new o).perm List.perm_middle.symm
theorem new2 {m1 m2 : List (Nat × Obj)} (h : Own W (m1 ++ (m2 ++ m)) w) (o : Obj) : Own W (m1 ++ (m2 ++ (w.heap.size, o) :: m)) (w.alloc o) :=
  (h.new o).perm (by rw [← List.append_assoc, ← List.append_assoc]; exact List.perm_middle.symm)
end Own

/-! ### make -/
theorem run_make_rowN {P : Program} (t e : TypeId) (i : TypeInfo) (z : Value) (ht : P.underlying t = some (.slice e)) (hi : P.info? e = some i) (hz : i.zero = some z)
    (kl kc : IntKind) (n c : Nat) (hnc : n ≤ c) (hbytes : i.bytes * c ≤ 281474976710656) (h63 : c ≤ 9223372036854775807) (w : World) :
    (Instr.makeSlice t (.int kl (n : Int)) (.int kc (c : Int))).run P w = .ok (.slice (some ⟨w.heap.size, 0, none⟩) n c) (w.alloc (.cells (madeCells z.cells (c * i.size)) e)) := by
  have hb : (i.bytes : Int) * (c : Int) ≤ 281474976710656 := by
    have h : ((i.bytes * c : Nat) : Int) ≤ 281474976710656 := by omega
    rwa [Int.natCast_mul] at h
  have hr := run_make (P := P) w t e i z ht hi hz kl kc n c (by omega) (by omega) hb (by omega)
  simp only [Int.toNat_natCast] at hr
  exact hr
theorem madeCells_const (z : Array Value) (x : Value) (n : Nat) (h0 : 0 < z.size) (h : ∀ i, i < z.size → z[i]! = x) : madeCells z n = Array.replicate n x := by
  apply Array.ext
  · simp [madeCells]
  · intro i h1 h2
    simp [madeCells, h (i % z.size) (Nat.mod_lt _ h0)]
/-- what is told of a type -/
theorem info_get {P : Program} {t n b : Nat} {z : Value} (h : (P.info? t).map (fun i => (i.zero, i.size, i.bytes)) = some (some z, n, b)) : ∃ i, P.info? t = some i ∧ i.zero = some z ∧ i.size = n ∧ i.bytes = b := by
  cases hi : P.info? t with
  | none => rw [hi] at h; cases h
  | some i => rw [hi] at h; simp at h; exact ⟨i, rfl, h⟩
end Go.Proofs.YtfgomgodfcdijaaGreatDoor
