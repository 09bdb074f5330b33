/-
  Texts of this claim, joined. No condition.
-/
import Derived.Test.YtfgomgodfcdijaaGreatDoorKn19
/-
  The runner, in pieces: a call in which a loop's end is known, and what is known of it behind; calls known at smaller memories. No condition.
-/
namespace Go.Proofs.YtfgomgodfcdijaaGreatDoor.Kn
open Go Ex
section
variable [Nums] {P : Program} {nt : Nat}
omit [Nums] in
theorem AX.beq_eq {x y : AX} (h : AX.beq x y = true) : x = y := by
  cases x <;> cases y <;> simp [AX.beq] at h <;> first | rfl | rw [h]
/-- less is known behind -/
theorem RW.weak {c : Code} {x : AX} {env en env9 : T AV} {h g h9 : AH} (hr : RW P nt c env h x en g) (he : T.le AV.beq env9 en = true) (hh : AH.le h9 g = true) : RW P nt c env h x env9 h9 := by
  obtain ⟨n, hn⟩ := hr
  obtain ⟨hx, hg⟩ := AH.le_get hh
  refine ⟨n, fun ρ w a hE hH => rounds_mono (fun e a' w' hq => ?_) _ _ _ (hn ρ w a hE hH)⟩
  obtain ⟨q1, ρ2, q2, q3⟩ := hq
  refine ⟨q1, ρ2, ?_, ⟨q3.dz, q3.size, fun t v hv => q3.val t v (T.le_getP AV.beq_eq he (toPs 20 t) hv)⟩⟩
  rw [hx]
  exact q2.sub hg
theorem rw_last (hm : P.follows .mixedOrders = true) {call : Sp} (hc : CallS P call) {c : Code} {x : AX} {env env9 : T AV} {h h9 : AH} {n : Nat} (he : okX (iter (exec P call nt c) n env h) x env9 h9 = true) : RW P nt c env h x env9 h9 := by
  unfold okX at he
  split at he <;> first | (cases he; done) | skip
  rename_i y en g hi
  simp only [Bool.and_eq_true] at he
  have := AX.beq_eq he.1
  subst this
  exact RW.weak (rw_end hm hc hi) he.2.1 he.2.2
theorem BgOk.weak {f : Nat} {args : List AV} {h g h' : AH} {v : AV} (hb : BgOk P [⟨f, args, h, v, g⟩]) (hh : AH.le h' g = true) : BgOk P [⟨f, args, h, v, h'⟩] := by
  intro b hbm
  rw [List.mem_singleton] at hbm
  subst hbm
  obtain ⟨h1, h2⟩ := hb _ List.mem_cons_self
  obtain ⟨hx, hg⟩ := AH.le_get hh
  refine ⟨h1, fun ρ w args' hH ha => (h2 ρ w args' hH ha).mono ?_⟩
  rintro e w' ⟨ρ', x, rfl, hv, hst⟩
  refine ⟨ρ', x, rfl, hv, ?_⟩
  show Stp ρ h.get h.next w ρ' h'.get h'.next w'
  rw [hx]
  exact hst.sub hg
def okC (r : Option (AV × AH)) (v : AV) (h : AH) : Bool := match r with
  | some (u, g) => AV.beq u v && AH.le h g
  | none => false
theorem callL_bgL (hm : P.follows .mixedOrders = true) {call : Sp} (hc : CallS P call) {envA env9 : T AV} {hA h9 : AH} {x9 : AX} {p : List Bool} {f : Nat} {fn : Func} {c : Code} (hf : P.funcs[f]? = some fn) (hb : fn.body = some c) {args : List AV} {h h' : AH} {v : AV}
    (hr : RW P fn.ntmps (loopAt p c) envA hA x9 env9 h9) (he : okC (callL P call envA hA (x9, env9, h9) p f args h) v h' = true) : BgOk P [⟨f, args, h, v, h'⟩] := by
  unfold okC at he
  split at he <;> first | (cases he; done) | skip
  rename_i u g hg
  rw [Bool.and_eq_true] at he
  have := AV.beq_eq he.1
  subst this
  exact BgOk.weak (callL_bg hm hc hf hb hr hg) he.2
/-- calls known at a memory, amid more -/
def bgLe (f : Nat) (args : List AV) (h : AH) : List Bg → Option (AV × AH)
  | [] => none
  | b :: l => match Nat.beq b.f f && (AV.beqs b.args args && AH.le b.h h) with
    | true => some (b.res, b.h')
    | false => bgLe f args h l
def callBL (bg : List Bg) (call : Sp) : Sp := fun f args h => match bgLe f args h bg with
  | some r => some r
  | none => call f args h
omit [Nums] in
theorem bgLe_mem {f : Nat} {args : List AV} {h h' : AH} {v : AV} : ∀ {bg : List Bg}, bgLe f args h bg = some (v, h') → ∃ b ∈ bg, b.f = f ∧ b.args = args ∧ AH.le b.h h = true ∧ b.res = v ∧ b.h' = h'
  | [], he => by cases he
  | b :: l, he => by
    unfold bgLe at he
    split at he
    · rename_i hb
      simp only [Bool.and_eq_true] at hb
      simp only [Option.some.injEq, Prod.mk.injEq] at he
      exact ⟨b, List.mem_cons_self, Nat.eq_of_beq_eq_true hb.1, AV.beqs_eq hb.2.1, hb.2.2, he.1, he.2⟩
    · obtain ⟨c, h1, h2⟩ := bgLe_mem he
      exact ⟨c, List.mem_cons_of_mem _ h1, h2⟩
theorem bgL_sound {call : Sp} (hc : CallS P call) {bg : List Bg} (hb : BgOk P bg) : CallS P (callBL bg call) := fun f args h v h' he => by
  unfold callBL at he
  split at he
  · rename_i r hr
    simp only [Option.some.injEq] at he
    subst he
    obtain ⟨b, hm, rfl, rfl, hle, rfl, rfl⟩ := bgLe_mem hr
    have hb1 : BgOk P [b] := fun c hcm => by
      rw [List.mem_singleton] at hcm
      subst hcm
      exact hb _ hm
    exact hb1.less hle { b with h := h } List.mem_cons_self
  · exact hc _ _ _ _ _ he
/-- A CALL, BY THE RUNNER, WHERE CALLS ARE KNOWN AT MEMORIES -/
noncomputable def runsBL [Fc] (P : Program) (bg : List Bg) (call : Sp) (f : FuncId) (v : AV) : Bool := match call1 P (callBL bg call) f [] (.mk .e 0) with
  | some (u, _) => AV.beq u v
  | none => false
theorem runsBL_calls (hm : P.follows .mixedOrders = true) {call : Sp} (hc : CallS P call) {bg : List Bg} (hb : BgOk P bg) {f : FuncId} {v : AV} (h : runsBL P bg call f v = true) (hv : v.shut = true) (w : World) (hg : Tabs Fc.globs w) (hro : Ros w) :
    Calls P f #[] w fun e w' => e = .returned (Ex.valOf Nums.σ v) ∧ RowKit.Below w.heap.size w w' := by
  unfold runsBL at h
  split at h <;> first | (cases h; done) | skip
  rename_i u h' hcl
  have h := AV.beq_eq h
  subst h
  have hH : HR (fun _ => none) (AH.mk .e 0).get (AH.mk .e 0).next w := ⟨fun _ _ => rfl, (fun n o hn => by rw [AH.get_e] at hn; cases hn), (fun n m b s s' hn => by rw [AH.get_e] at hn; cases hn), hg, (fun b l _ n s hn => by rw [AH.get_e] at hn; cases hn), hro, (fun b _ n s hn => by rw [AH.get_e] at hn; cases hn)⟩
  refine ((call1_sound hm (bgL_sound hc hb) _ _ _ _ _ hcl).2 (fun _ => none) w #[] hH VRs.nil).mono ?_
  rintro e w' ⟨ρ', x, rfl, hx, hst⟩
  exact ⟨by rw [VR.shut hx hv], hst.os, hst.tape, hst.output, hst.size, fun b hb => hst.block b hb fun n s hn => by rw [AH.get_e] at hn; cases hn⟩
/-- a call without arguments that answers true wherever it is called -/
def spTrue (f0 : Nat) : Sp := fun f args h => match Nat.beq f f0 with
  | true => match args with
    | [] => some (.bool true, h)
    | _ => none
  | false => none
theorem spTrue_sound {f0 : Nat} (hf : FnOk P f0) (hc : ∀ w, Tabs Fc.globs w → Ros w → Calls P f0 #[] w fun e w' => e = .returned (.bool true) ∧ RowKit.Below w.heap.size w w') : CallS P (spTrue f0) := fun f args h v h' he => by
  unfold spTrue at he
  split at he <;> first | (cases he; done) | skip
  rename_i hb
  have hb := Nat.eq_of_beq_eq_true hb
  subst hb
  split at he <;> first | (cases he; done) | skip
  simp only [Option.some.injEq, Prod.mk.injEq] at he
  obtain ⟨rfl, rfl⟩ := he
  refine ⟨hf, fun ρ w args' hH ha => ?_⟩
  have hargs : args' = #[] := by
    apply Array.ext'
    unfold VRs at ha
    exact ha
  subst hargs
  refine (hc w hH.gl hH.rl).mono ?_
  rintro e w' ⟨rfl, hbl⟩
  exact ⟨ρ, _, rfl, by unfold VR; rfl, Stp.left hH hbl⟩
end
end Go.Proofs.YtfgomgodfcdijaaGreatDoor.Kn
