import Derived.Test.YtllbnoojkgbjiaaGreatFqFssM
import Derived.Test.YtllbnoojkgbjiaaGreatFqFssSa
import Derived.Test.YtllbnoojkgbjiaaGreatFqFssSb
import Derived.Test.YtllbnoojkgbjiaaGreatFqFssSc
import Derived.Test.YtllbnoojkgbjiaaGreatFqFssSd
import Derived.Test.YtllbnoojkgbjiaaGreatFqFssSe
import Derived.Test.YtllbnoojkgbjiaaGreatFqFssR
/-
  wainscotlaw22.FastSteps: its readings, and a round of its loop. No condition.
-/
namespace Go.Proofs.YtllbnoojkgbjiaaGreat.Fss
open Go Ex Mem See
open Go.RowKit
open Step (headR hideR showG keyG)
open chartPlaces (Ok I64)
theorem w64_set {g : List Nat} {i w : Nat} (h : W64 g) (hw : w < 18446744073709551616) : W64 (g.set i w) := fun x hx => by
  rcases List.mem_or_eq_of_mem_set hx with hx | rfl
  · exact h x hx
  · exact hw
abbrev Ωn : Nat → Nat → Nat → Obj → Prop := fun _ _ _ _ => False
/-- the chart; how many words; the words that came in; accesses behind laid -/
structure Nx where
  C : Int
  S : Int
  O : Int
  d : Int
  e : Int
  key : Nat
  n : Nat
  w : List Int
  c0 : Nat
/-- a task, words, accesses, the round -/
structure St where
  t : Nat → Int
  g : List Nat
  cnt : Nat
  i : Nat
namespace Nx
def hI (s : St) : Nat := (IntKind.i64.wrap (4 * s.t 1)).toNat
def hw (s : St) : Nat := s.g.getD (hI s) 0
def lI (x : Nx) (s : St) : Nat := (IntKind.i64.wrap (IntKind.i64.wrap (IntKind.i64.wrap (IntKind.i64.wrap (IntKind.i64.wrap (4 * x.C) + 4) + IntKind.i64.wrap (4 * x.S)) + IntKind.i64.wrap (s.t 5 * x.O)) + s.t 6)).toNat
def lw (x : Nx) (s : St) : Nat := s.g.getD (x.lI s) 0
def keyN (x : Nx) (s : St) : Nat := keyG x.key (s.t 5)
def isI (o : Option Int) : Int := if o.isSome then 1 else 0
/-- what calls give -/
def vD (x : Nx) (s : St) (q : Nat) : Int :=
  if q = 61 then (if (headOf (hw s)).isSome then 1 else 0) else if q = 63 then ((headOf (hw s)).getD (0, 0)).1 else if q = 64 then ((headOf (hw s)).getD (0, 0)).2
  else if q = 65 then isI (showG (x.lw s) (x.keyN s) (s.t 6)) else if q = 66 then (showG (x.lw s) (x.keyN s) (s.t 6)).getD 0 else if q = 75 then isI (showG 0 (x.keyN s) (s.t 6)) else if q = 76 then (showG 0 (x.keyN s) (s.t 6)).getD 0
  else if q = 67 then (headR (s.t 5) (s.t 12)).1 else if q = 68 then ((headR (s.t 5) (s.t 12)).2 : Nat) else if q = 77 then (headR (s.t 5) (s.t 6)).1 else if q = 78 then ((headR (s.t 5) (s.t 6)).2 : Nat)
  else if q = 69 then (hideR (s.t 12) (x.keyN s) (s.t 6)).1 else if q = 70 then ((hideR (s.t 12) (x.keyN s) (s.t 6)).2 : Nat) else 0
def vK (x : Nx) (q : Nat) : Int :=
  if q = 20 then x.C else if q = 21 then x.S else if q = 22 then x.O else if q = 23 then x.d else if q = 24 then x.e else if q = 25 then x.key else if q = 26 then (if Ok x.C x.S x.O x.d x.e then 0 else 2) else if q = 30 then x.n else 0
def vS (x : Nx) (s : St) (q : Nat) : Int := if q < 17 then s.t q else if q = 41 then s.i else if q = 42 then s.cnt else if q < 50 then x.vK q else x.vD s q
def lS (x : Nx) (s : St) (q : Nat) : List (List Int) := if q = 40 then one x.w else if q = 1 then one (natsI s.g) else []
def σ (x : Nx) (s : St) : Nat → Int := sg (x.vS s) (x.lS s)
structure Inv (x : Nx) (s : St) : Prop where
  len : s.g.length = x.n
  w64 : W64 s.g
  i : s.i ≤ 12
  cnt : s.cnt ≤ x.c0 + s.i
structure Ok0 (x : Nx) : Prop where
  key : x.key < 18446744073709551616
  n0 : 1 ≤ x.n
  n1 : x.n ≤ 4096
  c0 : x.c0 ≤ 4096
def roW (A : Option Addr) (len cap : Nat) : Nat → Option (Option Addr × Nat × Nat) := fun i => if i = 40 then some (A, len, cap) else none
theorem roW_40 {A : Option Addr} {len cap : Nat} (i : Nat) (p) (h : roW A len cap i = some p) : i = 40 := by
  unfold roW at h
  by_cases hi : i = 40
  · exact hi
  · rw [if_neg hi] at h
    cases h
section
variable {x : Nx} {s : St}
theorem ev {q : Nat} (hq : q < 2048) : x.σ s q = x.vS s q := by
  show sg (x.vS s) (x.lS s) q = _
  rw [sg_v hq]
theorem e_t {q : Nat} (hq : q < 17) : x.σ s q = s.t q := by
  rw [ev (by omega)]
  unfold vS
  rw [if_pos hq]
theorem e20 : x.σ s 20 = x.C := ev (by omega)
theorem e21 : x.σ s 21 = x.S := ev (by omega)
theorem e22 : x.σ s 22 = x.O := ev (by omega)
theorem e25 : x.σ s 25 = x.key := ev (by omega)
theorem e30 : x.σ s 30 = x.n := ev (by omega)
theorem e41 : x.σ s 41 = s.i := ev (by omega)
theorem e42 : x.σ s 42 = s.cnt := ev (by omega)
theorem at1 (e : SE) : (atW 1 e).ev (x.σ s) = (s.g.getD (e.ev (x.σ s)).toNat 0 : Nat) := by
  show sg (x.vS s) (x.lS s) (lc 1 (e.ev (x.σ s)).toNat 0) = _
  rw [sg_one (L := natsI s.g) (by omega) rfl, List.getD_eq_getElem?_getD, List.getD_eq_getElem?_getD]
  unfold natsI
  rw [List.getElem?_map]
  cases s.g[(e.ev (x.σ s)).toNat]? <;> rfl
theorem ln1 : (SE.len (.lvar 1)).ev (x.σ s) = (s.g.length : Int) := by
  show ((sg (x.vS s) (x.lS s) (ln 1)).toNat : Int) = _
  rw [sg_oneN (L := natsI s.g) (by omega) rfl, natsI_len]
  rfl
theorem headE_ev : headE.ev (x.σ s) = IntKind.i64.wrap (4 * s.t 1) := by
  show IntKind.i64.wrap (4 * x.σ s 1) = _
  rw [e_t (by omega)]
theorem linkE_ev : linkE.ev (x.σ s) = IntKind.i64.wrap (IntKind.i64.wrap (IntKind.i64.wrap (IntKind.i64.wrap (IntKind.i64.wrap (4 * x.C) + 4) + IntKind.i64.wrap (4 * x.S)) + IntKind.i64.wrap (s.t 5 * x.O)) + s.t 6) := by
  show IntKind.i64.wrap (IntKind.i64.wrap (IntKind.i64.wrap (IntKind.i64.wrap (IntKind.i64.wrap (4 * x.σ s 20) + 4) + IntKind.i64.wrap (4 * x.σ s 21)) + IntKind.i64.wrap (x.σ s 5 * x.σ s 22)) + x.σ s 6) = _
  rw [e20, e21, e22, e_t (by omega), e_t (by omega)]
theorem wHead_ev : wHead.ev (x.σ s) = (hw s : Nat) := by
  unfold wHead
  rw [at1, headE_ev]
  rfl
theorem wLink_ev : wLink.ev (x.σ s) = (x.lw s : Nat) := by
  unfold wLink
  rw [at1, linkE_ev]
  rfl
theorem keyN_lt : x.keyN s < 18446744073709551616 := Step.keyG_lt _ _
theorem keyE_ev : keyE.ev (x.σ s) = (x.keyN s : Nat) := by
  show IntKind.u64.wrap (x.σ s 25 + IntKind.u64.wrap (IntKind.u64.wrap (x.σ s 5) * 11400714819323198485)) = _
  rw [e25, e_t (by omega)]
  unfold keyN keyG
  rw [Int.toNat_of_nonneg]
  rw [IntKind.wrap_u64]
  omega
theorem getD_lt {g : List Nat} (h : W64 g) (i : Nat) : g.getD i 0 < 18446744073709551616 := by
  rw [List.getD_eq_getElem?_getD]
  cases hi : g[i]? with
  | none => show 0 < _; omega
  | some y => exact h y (List.mem_of_getElem? hi)
/-! the calls that look at no memory -/
theorem kcAll_app {ro : Nat → Option (Option Addr × Nat × Nat)} {σ : Nat → Int} {a b : List Kc} (h1 : KcAll [] rk40 ro Tryz.prog σ Ωn (kgs a)) (h2 : KcAll [] rk40 ro Tryz.prog σ Ωn (kgs b)) : KcAll [] rk40 ro Tryz.prog σ Ωn (kgs (a ++ b)) := kcAll_more h1 h2
theorem kcAll_of {ro : Nat → Option (Option Addr × Nat × Nat)} {σ : Nat → Int} {a : List Kc} (h : ∀ fs (ok : ∀ q ∈ fs, q.1.ev σ = q.2), ∀ k ∈ a, @KcOk (nums [] rk40 ro σ Ωn fs ok) Tryz.prog k) : KcAll [] rk40 ro Tryz.prog σ Ωn (kgs a) := fun fs ok _ k hk => h fs ok k hk
theorem chA_ev : (valsOf (x.σ s) [.agg chA]).toArray = #[Apart.chV x.C x.S x.O x.d x.e x.key] := by
  show #[Value.agg #[.int .i64 (x.σ s 20), .int .i64 (x.σ s 21), .int .i64 (x.σ s 22), .int .i64 (x.σ s 23), .int .i64 (x.σ s 24), .int .u64 (x.σ s 25)]] = _
  rw [e20, e21, e22, e25, show x.σ s 23 = x.d from ev (by omega), show x.σ s 24 = x.e from ev (by omega)]
theorem isI_eq (o : Option Int) : isI o = if o.isSome then 1 else 0 := rfl
theorem kcs_pure {ro : Nat → Option (Option Addr × Nat × Nat)} (h1 : I64 x.C) (h2 : I64 x.S) (h3 : I64 x.O) (hg : W64 s.g) : KcAll [] rk40 ro Tryz.prog (x.σ s) Ωn (kgs kcPure) := by
  have hk := keyN_lt (x := x) (s := s)
  have hhd : ∀ a b, headOf (hw s) = some (a, b) → x.σ s 63 = a ∧ x.σ s 64 = b := fun a b h => by
    rw [show x.σ s 63 = ((headOf (hw s)).getD (0, 0)).1 from ev (by omega), show x.σ s 64 = ((headOf (hw s)).getD (0, 0)).2 from ev (by omega), h]
    exact ⟨rfl, rfl⟩
  have hsh : ∀ a, showG (x.lw s) (x.keyN s) (x.σ s 6) = some a → x.σ s 66 = a := fun a h => by
    rw [e_t (by omega)] at h
    rw [show x.σ s 66 = (showG (x.lw s) (x.keyN s) (s.t 6)).getD 0 from ev (by omega), h]
    rfl
  have hsh0 : ∀ a, showG 0 (x.keyN s) (x.σ s 6) = some a → x.σ s 76 = a := fun a h => by
    rw [e_t (by omega)] at h
    rw [show x.σ s 76 = (showG 0 (x.keyN s) (s.t 6)).getD 0 from ev (by omega), h]
    rfl
  have i65 : x.σ s 65 = if (showG (x.lw s) (x.keyN s) (x.σ s 6)).isSome then 1 else 0 := by rw [e_t (q := 6) (by omega)]; exact ev (by omega)
  have i75 : x.σ s 75 = if (showG 0 (x.keyN s) (x.σ s 6)).isSome then 1 else 0 := by rw [e_t (q := 6) (by omega)]; exact ev (by omega)
  have hA : x.σ s 67 = (headR (x.σ s 5) (x.σ s 12)).1 ∧ x.σ s 68 = ((headR (x.σ s 5) (x.σ s 12)).2 : Nat) := by rw [e_t (q := 5) (by omega), e_t (q := 12) (by omega)]; exact ⟨ev (by omega), ev (by omega)⟩
  have hB : x.σ s 77 = (headR (x.σ s 5) (x.σ s 6)).1 ∧ x.σ s 78 = ((headR (x.σ s 5) (x.σ s 6)).2 : Nat) := by rw [e_t (q := 5) (by omega), e_t (q := 6) (by omega)]; exact ⟨ev (by omega), ev (by omega)⟩
  have hH : x.σ s 69 = (hideR (x.σ s 12) (x.keyN s) (x.σ s 6)).1 ∧ x.σ s 70 = ((hideR (x.σ s 12) (x.keyN s) (x.σ s 6)).2 : Nat) := by rw [e_t (q := 12) (by omega), e_t (q := 6) (by omega)]; exact ⟨ev (by omega), ev (by omega)⟩
  have e61 : x.σ s 61 = if (headOf (hw s)).isSome then 1 else 0 := ev (by omega)
  have hwl : hw s < 18446744073709551616 := getD_lt hg _
  have hll : x.lw s < 18446744073709551616 := getD_lt hg _
  unfold kcPure
  refine kcAll_app (kcAll_app (kcAll_app (kcAll_app (kcAll_app (kcAll_app (kcAll_app (kcAll_app (kcAll_app (kcAll_app (kcAll_app ?_ ?_) ?_) ?_) ?_) ?_) ?_) ?_) ?_) ?_) ?_) ?_
  · refine kcAll_cons (fun fs ok => ?_) (kcAll_cons (fun fs ok => ?_) kcAll_nil)
    · letI N : Nums := nums [] rk40 ro (x.σ s) Ωn fs ok
      refine kc_pure rfl rfl rfl rfl rfl fn_cCheck fun _ W w m hO => ?_
      rw [show (valsOf Nums.σ (kcCheck 18).args).toArray = _ from chA_ev]
      refine (ccheck_any hO).mono ?_
      rintro e w' ⟨rfl, h'⟩
      refine ⟨?_, h'⟩
      exact congrArg (fun z => Ending.returned (Value.int .i64 z)) (ev (x := x) (s := s) (q := 26) (by omega)).symm
    · letI N : Nums := nums [] rk40 ro (x.σ s) Ωn fs ok
      refine kc_pure rfl rfl rfl rfl rfl fn_rCheck fun _ W w m hO => ?_
      rw [show (valsOf Nums.σ (kcCheck 45).args).toArray = _ from chA_ev]
      refine (rcheck_any h1 h2 h3 hO).mono ?_
      rintro e w' ⟨rfl, h'⟩
      refine ⟨?_, h'⟩
      exact congrArg (fun z => Ending.returned (Value.int .i64 z)) (ev (x := x) (s := s) (q := 26) (by omega)).symm
  · exact kcAll_of fun fs ok => by letI N : Nums := nums [] rk40 ro (x.σ s) Ωn fs ok; exact kc_headOf fn_headOf ans_headOf hwl wHead_ev e61 hhd
  · exact kcAll_of fun fs ok => by letI N : Nums := nums [] rk40 ro (x.σ s) Ωn fs ok; exact kc_headOf fn_rHeadOf ans_rHeadOf hwl wHead_ev e61 hhd
  · exact kcAll_of fun fs ok => by letI N : Nums := nums [] rk40 ro (x.σ s) Ωn fs ok; exact kc_show2 fn_show ans_show rfl hll hk (by show Value.int .u64 (wLink.ev (x.σ s)) = _; rw [wLink_ev]) keyE_ev i65 hsh
  · exact kcAll_of fun fs ok => by letI N : Nums := nums [] rk40 ro (x.σ s) Ωn fs ok; exact kc_show2 fn_rShow ans_rShow rfl hll hk (by show Value.int .u64 (wLink.ev (x.σ s)) = _; rw [wLink_ev]) keyE_ev i65 hsh
  · exact kcAll_of fun fs ok => by letI N : Nums := nums [] rk40 ro (x.σ s) Ωn fs ok; exact kc_show2 (x := 0) fn_show ans_show rfl (by omega) hk rfl keyE_ev i75 hsh0
  · exact kcAll_of fun fs ok => by letI N : Nums := nums [] rk40 ro (x.σ s) Ωn fs ok; exact kc_head2 fn_headF ans_headF hA.1 hA.2
  · exact kcAll_of fun fs ok => by letI N : Nums := nums [] rk40 ro (x.σ s) Ωn fs ok; exact kc_head2 fn_rHead ans_rHead hA.1 hA.2
  · exact kcAll_of fun fs ok => by letI N : Nums := nums [] rk40 ro (x.σ s) Ωn fs ok; exact kc_head2 fn_headF ans_headF hB.1 hB.2
  · exact kcAll_of fun fs ok => by letI N : Nums := nums [] rk40 ro (x.σ s) Ωn fs ok; exact kc_head2 fn_rHead ans_rHead hB.1 hB.2
  · exact kcAll_of fun fs ok => by letI N : Nums := nums [] rk40 ro (x.σ s) Ωn fs ok; exact kc_hide2 fn_hideF ans_hide hk keyE_ev hH.1 hH.2
  · exact kcAll_of fun fs ok => by letI N : Nums := nums [] rk40 ro (x.σ s) Ωn fs ok; exact kc_hide2 fn_rHide ans_rHide hk keyE_ev hH.1 hH.2
end
end Nx
end Go.Proofs.YtllbnoojkgbjiaaGreat.Fss
