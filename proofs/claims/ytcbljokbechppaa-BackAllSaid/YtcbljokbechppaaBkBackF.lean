import Derived.Test.YtcbljokbechppaaBkBackD
/-
  wainscotlaw23.BackAlone: what is known of its calls, its loop, and the whole. No condition.
-/
namespace Go.Proofs.Ytcbljokbechppaa.Back
open Go Ex Mem See Fast
open Go.RowKit
theorem fn_works : FnOk Try.prog 12 := ⟨Try.f12, _, Try.func12, by kernel_rfl, rfl⟩
namespace Nb
section
variable {n : Nb} (h : n.Ok)
include h
/-- slabbed, as a known call -/
def slabA (n : Nb) : Kc := kcSlab 0 (v 1) (.ubin .mul (.cv .u64 (v 31)) (l 3)) n.fz n.sh 2 3 0 5 4
def th0 : Sub := { v := [(0, v 0), (1, v 1), (2, .ubin .mul (.cv .u64 (v 31)) (l 3)), (3, v 2), (4, v 3)] }
theorem kc_slab (fs) (ok : ∀ f ∈ fs, f.1.ev n.σX = f.2) : @KcOk (nums [] [] roN n.σX Ωn fs ok) Try.prog n.slabA := by
  have hk := h.k16
  have hkK : n.k = n.K + 1 := rfl
  have hK := h.K
  have hmn := h.mn
  have hcp := h.cp
  have s0 : (v 0).ev (n.σS n.a) = (n.K : Int) := sev (by omega)
  have s1 : (v 1).ev (n.σS n.a) = (n.a : Int) := sev (by omega)
  have s2 : (v 2).ev (n.σS n.a) = (n.key : Int) := sev (by omega)
  have s3 : (v 3).ev (n.σS n.a) = (n.mn : Int) := sev (by omega)
  have s4 : (v 4).ev (n.σS n.a) = (n.cp : Int) := sev (by omega)
  have s5 : (v 5).ev (n.σS n.a) = (n.P0 : Int) := sev (by omega)
  have s7 : (v 7).ev (n.σS n.a) = (n.a : Int) := sev (by omega)
  have lt : ∀ x : Int, (l x).ev (n.σS n.a) = x := fun _ => rfl
  have hrun : treeC Try.prog [] [] (kcsS n.fz n.z) [LS n.fz n.sh] 30 n.slabA.f (argS n.fz n.sh) ⟨[], [], ⟨5, 0, 0, 0⟩⟩ ((kcSlab 10 (v 11) (v 14) n.fz n.sh 12 13 0 15 14).leaf (thS n.sh n.z 10 12 13 0 15 14)) (fS n.z) = true := by
    have h1 := runS [] n.fz n.sh n.z
    rw [treeC_h (t := ⟨[], [], ⟨8, 3, 0, 0⟩⟩) (t' := ⟨[], [], ⟨5, 0, 0, 0⟩⟩) rfl] at h1
    exact h1
  refine kc_tree (σ1 := n.σS n.a) (Ω1 := Ωn) (A := argS n.fz n.sh) (pre := []) (B0 := ⟨5, 0, 0, 0⟩) (θ0 := th0) (kcs := kcsS n.fz n.z) (lns := [LS n.fz n.sh]) (n := 30)
    (d := (kcSlab 10 (v 11) (v 14) n.fz n.sh 12 13 0 15 14).leaf (thS n.sh n.z 10 12 13 0 15 14)) (fs1 := fS n.z) mixed fn_slabbed rfl rfl rfl rfl (by cases n.fz <;> cases n.sh <;> rfl) (kcs_slab h.toOkS) (lns_slab h.toOkS (fun _ _ hp => by cases hp)) (fun q hq => ?_) hrun ?_ ?_ fs ok
  · simp only [fS, fK, List.cons_append, List.nil_append, List.mem_cons, List.not_mem_nil, or_false] at hq
    rcases hq with rfl | rfl | rfl | rfl | rfl | rfl | rfl | rfl | rfl | rfl | rfl | rfl | rfl
    · exact lt_f s1 (lt 0) (by omega)
    · by_cases h0 : n.a = 0
      · rw [z_eq h0]; exact lt_t s1 (lt 1) (by omega)
      · rw [z_ne h0]; exact lt_f s1 (lt 1) (by omega)
    · exact lt_t s1 (lt 17) (by omega)
    · refine lt_f (x := ((16 + 2 * n.k : Nat) : Int)) ?_ (lt 18) (by omega)
      show (((n.σS n.a) (ln 2)).toNat : Int) = _
      unfold σS
      rw [sg_oneN (L := natsI (lkI n.k n.a n.key1 n.a)) (by omega) rfl, natsI_len, lkI_len]
      rfl
    · refine lt_t (x := ((16 + 2 * n.k : Nat) : Int)) ?_ (lt 100) (by omega)
      show (((n.σS n.a) (ln 2)).toNat : Int) = _
      unfold σS
      rw [sg_oneN (L := natsI (lkI n.k n.a n.key1 n.a)) (by omega) rfl, natsI_len, lkI_len]
      rfl
    · exact lt_f s7 (lt 0) (by omega)
    · exact lt_t s7 (lt 100) (by omega)
    · exact lt_f s0 (lt 0) (by omega)
    · exact lt_t s0 (lt 16) (by omega)
    · exact lt_f s3 (lt 0) (by omega)
    · exact lt_t s3 (lt 3) (by omega)
    · exact lt_f s4 (lt 0) (by omega)
    · exact lt_t s4 (lt 3) (by omega)
  · refine agree_sg (fun _ => rfl) (by decide) (by decide) rfl (fun i hi => ?_) fun i hi => absurd hi (Nat.not_lt_zero i)
    have hi : i < 5 := hi
    match i, hi with
    | 0, _ => exact x0.symm
    | 1, _ => exact x1.symm
    | 2, _ =>
      show (n.key : Int) = IntKind.u64.wrap (IntKind.u64.wrap ((v 31).ev n.σX) * 3)
      rw [x31, h.ek]
    | 3, _ => exact x2.symm
    | 4, _ => exact x3.symm
    | i + 5, h => exact absurd h (by omega)
  · show ∃ θ B, _
    refine ⟨thS n.sh n.z 0 2 3 0 5 4, ⟨6, 1, 0, rel + 2⟩, ?_, ?_, ?_, ?_⟩
    · cases n.fz <;> cases n.sh <;> cases n.z <;> rfl
    · cases n.fz <;> cases n.sh <;> cases n.z <;> rfl
    · cases n.fz <;> cases n.sh <;> cases n.z <;> rfl
    · have pl : ∀ (m : Nat) (e : SE) (x : Int), e.ev (n.σS n.a) = x → 0 ≤ x → x + m < 1000 → (plus m e).ev (n.σS n.a) = x + m := by
        intro m
        induction m with
        | zero => intro e x he _ _; rw [plus, he]; simp
        | succ m ih =>
          intro e x he h0 h1
          rw [plus, ih (.bin .add e (l 1)) (x + 1) ?_ (by omega) (by omega)]
          · omega
          · show IntKind.i64.wrap (e.ev (n.σS n.a) + 1) = _
            rw [he, i64_small (by omega) (by omega)]
      refine agree_sg (fun _ => rfl) (by decide) (by decide) rfl (fun i hi => ?_) fun i hi => ?_
      · have hi : i < 6 := hi
        match i, hi with
        | 0, _ => exact s0.symm
        | 1, _ => exact s1.symm
        | 2, _ => exact s3.symm
        | 3, _ => exact s4.symm
        | 4, _ => exact s2.symm
        | 5, _ =>
          show (n.cnt : Int) = (plus ((if n.z then 0 else 1) + 1 + (if n.sh then 2 else 0)) (v 7)).ev (n.σS n.a)
          rw [pl _ _ _ s7 (by omega) (by cases n.z <;> cases n.sh <;> simp <;> omega)]
          unfold Nb.cnt
          omega
        | i + 6, h => exact absurd h (by omega)
      · obtain rfl : i = 0 := by have : i < 1 := hi; omega
        show LsRec _ (endL n.sh n.z) (one (natsI n.G0))
        have hl : (lkI n.k n.a n.key1 n.a).length = 16 + 2 * n.k := lkI_len _
        have r2 : LsRec (n.σS n.a) (.lvar 2) (one (natsI (lkI n.k n.a n.key1 n.a))) := LsRec.var' (by omega) rfl
        have st : ∀ {L e x : SE} {g : List Nat} {i y : Nat}, LsRec (n.σS n.a) L (one (natsI g)) → e.ev (n.σS n.a) = (i : Int) → x.ev (n.σS n.a) = (y : Int) → i < g.length → LsRec (n.σS n.a) (.lset L e 0 x) (one (natsI (g.set i y))) := by
          intro L e x g i y hL he hx hi
          rw [nats_set]
          exact hL.set he hx (by rw [natsI_len]; exact hi)
        have ra : LsRec (n.σS n.a) (if n.z then .lvar 2 else .lset (.lvar 2) (l 12) 0 (l 1)) (one (natsI (if n.a = 0 then lkI n.k n.a n.key1 n.a else (lkI n.k n.a n.key1 n.a).set 12 1))) := by
          by_cases h0 : n.a = 0
          · rw [z_eq h0, if_pos rfl, if_pos h0]
            exact r2
          · rw [z_ne h0, if_neg (by decide), if_neg h0]
            exact st r2 (i := 12) (y := 1) rfl rfl (by omega)
        have la : (if n.a = 0 then lkI n.k n.a n.key1 n.a else (lkI n.k n.a n.key1 n.a).set 12 1).length = 16 + 2 * n.k := by split <;> simp [hl]
        have rb := st ra (e := l 13) (i := 13) rfl s5 (by omega)
        unfold endL Nb.G0 slG
        cases n.sh with
        | false => exact rb
        | true => exact st (st rb (e := l 5) (x := l 2) (i := 5) (y := 2) rfl rfl (by rw [List.length_set]; omega)) (e := l 6) (x := l 1) (i := 6) (y := 1) rfl rfl (by rw [List.length_set, List.length_set]; omega)
/-! the others -/
omit h in
theorem bring_wf {x : Int} {m : Nat} (hx : x = (m : Int)) (hm : m < 1000) : (Lit.int .i64 x).wf = true := by
  subst hx
  simp [Lit.wf, IntKind.min, IntKind.max, IntKind.signed, IntKind.bits]
  omega
theorem kcs_B : KcAll [] [] roN Try.prog n.σX Ωn (kcsB n.fz n.z) := by
  have hk := h.k16
  have hkK : n.k = n.K + 1 := rfl
  have hK := h.K
  have hkey1 : n.key1 < 18446744073709551616 := by
    unfold Nb.key1 See.keyOf
    exact Nat.mod_lt _ (by omega)
  refine kcAll_cons (fun fs ok => ?_) (kcAll_cons (fun fs ok => ?_) (kcAll_cons (fun fs ok => ?_) (kcAll_cons (fun fs ok => ?_) (kcAll_cons (fun fs ok => ?_) (kcAll_cons (fun fs ok => ?_) (kcAll_cons (fun fs ok => ?_) (kcAll_cons (fun fs ok => ?_) (kcAll_cons (fun fs ok => ?_) kcAll_nil)))))))) <;>
    letI N : Nums := nums [] [] roN n.σX Ωn fs ok
  · exact kc_bring (x := n.r0) (n := 16) rfl rfl (by show Value.int .i64 ((v 30).ev n.σX) = _; rw [x30]) rfl (by omega) (by omega) h.w0 (by rw [h.e0]; exact x0)
  · exact kc_bring (x := n.r1) (n := (n.k : Int)) rfl rfl (by show Value.int .i64 ((v 31).ev n.σX) = _; rw [x31]) (by show Value.int .i64 ((kE 0).ev n.σX) = _; rw [xk h]) (by omega) (by omega) h.w1 (by rw [h.e1]; exact x1)
  · exact kc_bring (x := n.r2) (n := 3) rfl rfl (by show Value.int .i64 ((v 32).ev n.σX) = _; rw [x32]) rfl (by omega) (by omega) h.w2 (by rw [h.e2]; exact x2)
  · exact kc_bring (x := n.r3) (n := 3) rfl rfl (by show Value.int .i64 ((v 33).ev n.σX) = _; rw [x33]) rfl (by omega) (by omega) h.w3 (by rw [h.e3]; exact x3)
  · exact kc_slab h fs ok
  · refine kc_counts (A := n.k - n.a) (B := n.k) ?_ (xin h) (xk h) (by omega) (by omega) (by omega)
    show (w (13 : Nat)).ev n.σX = _
    rw [xw 13, at13 h]
    rfl
  · exact kc_pack (A := n.k - n.a - 1) (B := n.k) (xout h) (xk h) (by omega) (by omega) (by omega) x6
  · refine kc_hide (x := if n.z then -1 else 0) (y := (n.K : Int)) (key := n.key1) ?_ (xkey h) (xobj h) (by split <;> omega) (by omega) hkey1 ?_
    · show IntKind.i64.wrap (IntKind.i64.wrap ((w (12 : Nat)).ev n.σX) - 1) = _
      rw [xw 12, at12 h]
      cases n.z <;> rfl
    · show _ = ((hideW _ n.key1 ((n.K : Int)).toNat : Nat) : Int)
      rw [Int.toNat_natCast]
      exact x7
  · refine kc_partOf0 ?_
    show (w (2 : Nat)).ev n.σX = 0
    rw [xw 2, at_zero h (by omega) (by omega) (by omega) (by omega) (by omega)]
    rfl
theorem chX : Ex.valOf n.σX (.agg (chA 0 2 3 4)) = cV (c2 n.k n.key) (n.mn : Int) (n.cp : Int) := by
  show Value.agg #[.int .i64 1, .int .i64 2, .int .i64 ((kE 0).ev n.σX), .int .i64 ((v 2).ev n.σX), .int .i64 ((v 3).ev n.σX), .int .u64 ((v 4).ev n.σX)] = _
  rw [xk h, x2, x3, x4]
  rfl
theorem cok : COk (c2 n.k n.key) (n.mn : Int) (n.cp : Int) := by
  have hk := h.k16
  have hmn := h.mn
  have hcp := h.cp
  refine ⟨?_, h.key⟩
  unfold chartPlaces.Ok
  show (1 : Int) ≤ ((1 : Nat) : Int) ∧ _
  simp only
  omega
theorem kcs_W : KcAll [] [] roN Try.prog n.σX Ωn (kcsW n.way) := by
  have hk := h.k16
  have hz := n.way_z
  refine kcAll_more (kcAll_more ?_ (kcAll_cons (fun fs ok => ?_) (kcAll_cons (fun fs ok => ?_) kcAll_nil))) (kcAll_sl fun nn hn fs ok => ?_)
  · rw [hz.1, hz.2]
    exact kcs_B h
  · letI N : Nums := nums [] [] roN n.σX Ωn fs ok
    exact kc_clone (g := n.G1) (by decide) (end_rec h).is (by rw [G1_len]; exact xN h) (by rw [G1_len]; omega) (by rw [G1_len]; omega) (ls_sg (by omega) rfl)
  · letI N : Nums := nums [] [] roN n.σX Ωn fs ok
    refine kc_pure rfl rfl rfl rfl rfl fn_works fun _ W w m hO => ?_
    exact works_in hO
  · letI N : Nums := nums [] [] roN n.σX Ωn fs ok
    have bit : ∀ (i : Nat) (b : Bool), (v i).ev n.σX = (if b then 1 else 0 : Int) → b = !(n.σX i == 0) := fun i b hb => by
      have hb : n.σX i = _ := hb
      rw [hb]
      cases b <;> rfl
    have nil_ : ∀ q, q < 64 → n.lX q = [] → LsVal n.σX q [] := fun q hq hl => ls_sg hq hl
    have hso : SlotVal n.σX [⟨-1, [], at_ n.G1 1, n.parts⟩] n.way.sh.slots 50 10 := by
      have e0 : (true = ([] : List Int).isEmpty ∧ n.parts.isEmpty = n.parts.isEmpty) := ⟨rfl, rfl⟩
      have hs : n.way.sh.slots = [(true, n.parts.isEmpty)] := by
        unfold Nb.parts
        cases n.way <;> rfl
      rw [hs]
      exact ⟨e0, ⟨ev_v (n := n) (i := 50) (by omega), ev_v (n := n) (i := 51) (by omega)⟩, ⟨nil_ 10 (by omega) rfl, ls_sg (by omega) rfl⟩, trivial⟩
    have hn1 : n.way.sh.n = 1 := by cases n.way <;> rfl
    have hsh : n.way.sh.shelf = n.shelf.isEmpty := by
      unfold Nb.shelf
      cases n.way <;> rfl
    have hsl : n.way.sh.slabs = [true, false] := by cases n.way <;> rfl
    refine kc_see (c := c2 n.k n.key) (d := (n.mn : Int)) (e := (n.cp : Int)) (K := ⟨[⟨-1, [], at_ n.G1 1, n.parts⟩], n.shelf, n.lk, [⟨⟨0, 0, false, false⟩, []⟩, ⟨n.cn, n.L1⟩]⟩) (g := n.G1) hn rfl (chX h) (cok h) (w64_G1 h) ?_ (ls_sg (by omega) rfl) (see1 h) ⟨hso, ?_, ?_, by rw [hn1]; omega, by rw [hsl]; decide⟩
    · rw [G1_len]
      unfold Ch.words
      show 16 + 2 * n.k = 4 * 1 + 4 + 4 * 2 + 2 * n.k
      omega
    · rw [hn1]
      exact ⟨hsh, ls_sg (by omega) rfl, bit 52 n.lk (ev_v (by omega))⟩
    · rw [hn1, hsl]
      exact ⟨rfl, ⟨ev_v (n := n) (i := 53) (by omega), ev_v (n := n) (i := 54) (by omega), bit 55 false (ev_v (by omega)), bit 56 false (ev_v (by omega))⟩, nil_ 13 (by omega) rfl, rfl, ⟨ev_v (n := n) (i := 57) (by omega), ev_v (n := n) (i := 58) (by omega), bit 59 n.cn.frozen (ev_v (by omega)), bit 60 true (ev_v (by omega))⟩, ls_sg (by omega) rfl, trivial⟩
theorem kcs_eq : KcAll [] [] roN Try.prog n.σX Ωn (kgEq n.way) := by
  have hk := h.k16
  intro fs ok args k hkm
  letI N : Nums := nums [] [] roN n.σX Ωn fs ok
  have hw : LsIs n.σX (.lvar 3) (n.want n.a) := .var (ls_sg (by omega) rfl)
  have hw2 : LsIs n.σX (.lvar 14) (n.want n.a) := .var (ls_sg (by omega) rfl)
  have hlen : ((n.want n.a).length : Int) ≤ 100 := by
    unfold Nb.want
    rw [List.length_cons, upL_len]
    omega
  have h1 : LsIs n.σX oneL [1] := (LsRec.nil.snoc (g := []) (x := l 1) (y := 1) rfl).is
  have one_ : ∀ q, q < 64 → n.lX q = one [1] → ∀ a b, a < rel → b < rel → @KcOk N Try.prog (kcEq a q b (l 1) oneL) := fun q hq hl a b ha hb => by
    have hv : LsVal n.σX q [1] := ls_sg hq hl
    refine kc_eqInts (g := [1]) ha hb (.var hv) h1 ?_ rfl (by decide)
    show ((n.σX (ln q)).toNat : Int) = _
    rw [hv.1]
  unfold kgEq at hkm
  split at hkm
  · split at hkm
    · rename_i hlt
      rw [Bool.and_eq_true] at hlt
      have ha := show _ < 600000 by simpa using hlt.1
      have hb := show _ < 600000 by simpa using hlt.2
      rw [List.mem_singleton] at hkm
      subst hkm
      refine kc_eqInts (g := n.want n.a) ha hb hw2 hw ?_ ?_ (by omega)
      · show ((n.σX (ln 14)).toNat : Int) = _
        rw [show (n.σX (ln 14)).toNat = _ from (ls_sg (v := n.vX) (l := n.lX) (q := 14) (L := n.want n.a) (by omega) rfl).1]
      · show ((n.σX (ln 3)).toNat : Int) = _
        rw [show (n.σX (ln 3)).toNat = _ from (ls_sg (v := n.vX) (l := n.lX) (q := 3) (L := n.want n.a) (by omega) rfl).1]
    · cases hkm
  · split at hkm
    · rename_i hlt
      rw [Bool.and_eq_true] at hlt
      have ha := show _ < 600000 by simpa using hlt.1
      have hb := show _ < 600000 by simpa using hlt.2
      have hp : n.lX 11 = one n.parts := rfl
      have hs : n.lX 12 = one n.shelf := rfl
      unfold Nb.parts at hp
      unfold Nb.shelf at hs
      split at hkm
      · rename_i hw'
        rw [hw'] at hp
        rw [List.mem_singleton] at hkm
        subst hkm
        exact one_ 11 (by omega) hp _ _ ha hb
      · rename_i hw'
        rw [hw'] at hs
        rw [List.mem_singleton] at hkm
        subst hkm
        exact one_ 12 (by omega) hs _ _ ha hb
      · rename_i hw'
        rw [hw'] at hs
        rw [List.mem_singleton] at hkm
        subst hkm
        exact one_ 12 (by omega) hs _ _ ha hb
      · cases hkm
    · cases hkm
  · cases hkm
theorem kcs_X : KcAll [] [] roN Try.prog n.σX Ωn (kcsX n.way) := kcAll_more (kcs_W h) (kcs_eq h)
end
end Nb
end Go.Proofs.Ytcbljokbechppaa.Back
