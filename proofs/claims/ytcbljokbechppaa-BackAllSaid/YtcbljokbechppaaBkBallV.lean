import Derived.Test.YtcbljokbechppaaBkBallU
import Derived.Test.YtcbljokbechppaaBkBackF
/-
  wainscotlaw23.BackAll: its calls, its loops, and the whole. No condition.
-/
namespace Go.Proofs.Ytcbljokbechppaa.Ball
open Go Ex Mem See Fast Back
open Go.RowKit Go.ChangeShapes
namespace Nl
/-- the law's numbers, as they came in -/
structure Ok2 (x : Nl) : Prop extends x.Ok where
  kk : x.key = x.k
  w0 : (Lit.int .i64 x.r0).wf = true
  w1 : (Lit.int .i64 x.r1).wf = true
  e1 : x.r1 % 6 = (x.n : Int) - 1
  e0 : x.r0 % (17 - (x.n : Int)) = (x.k : Int) - x.n
  wf : ∀ y ∈ x.whose, (Lit.int .i64 y).wf = true
section
variable {x : Nl} (h : x.Ok2) {L : List Int} {A : Option Addr} {len cap : Nat}
theorem y0 : (v 0).ev (x.σE L) = (x.K : Int) := eev' (by omega)
theorem y2 : (v 2).ev (x.σE L) = 0 := eev' (by omega)
theorem y3 : (v 3).ev (x.σE L) = 0 := eev' (by omega)
theorem y4 : (v 4).ev (x.σE L) = (x.key : Int) := eev' (by omega)
theorem y5 : (v 5).ev (x.σE L) = 1 := eev' (by omega)
theorem y18 : (v 18).ev (x.σE L) = ((x.st 260).cnt : Int) := eev' (by omega)
theorem y19 : (v 19).ev (x.σE L) = (x.n : Int) := eev' (by omega)
theorem y30 : (v 30).ev (x.σE L) = x.r0 := eev' (by omega)
theorem y31 : (v 31).ev (x.σE L) = x.r1 := eev' (by omega)
theorem y32 : (v 32).ev (x.σE L) = (x.n : Int) - 1 := eev' (by omega)
theorem y33 : (v 33).ev (x.σE L) = (x.k : Int) - x.n := eev' (by omega)
include h
theorem kn : 1 ≤ x.k ∧ x.k ≤ 16 ∧ 0 < x.n ∧ x.n ≤ 6 ∧ x.n ≤ x.k ∧ x.k = x.K + 1 := ⟨(k16 h.toOk).1, (k16 h.toOk).2, h.n0, h.n6, h.nk, rfl⟩
theorem yk : (kE 0).ev (x.σE L) = (x.k : Int) := by
  have := kn h
  show IntKind.i64.wrap (1 + (v 0).ev (x.σE L)) = _
  rw [y0, i64_small (by omega) (by omega)]
  omega
theorem yN : (wordsE (kE 0)).ev (x.σE L) = ((16 + 2 * x.k : Nat) : Int) := by
  have := kn h
  show IntKind.i64.wrap (16 + IntKind.i64.wrap (2 * (kE 0).ev (x.σE L))) = _
  rw [yk h, i64_small (x := 2 * _) (by omega) (by omega), i64_small (by omega) (by omega)]
  omega
theorem yn : nE.ev (x.σE L) = (x.n : Int) := by
  have := kn h
  show IntKind.i64.wrap (1 + (v 32).ev (x.σE L)) = _
  rw [y32, i64_small (by omega) (by omega)]
  omega
theorem yk2 : kE2.ev (x.σE L) = (x.k : Int) := by
  have := kn h
  show IntKind.i64.wrap (nE.ev (x.σE L) + (v 33).ev (x.σE L)) = _
  rw [yn h, y33, i64_small (by omega) (by omega)]
  omega
theorem y17 : (SE.bin .sub (l 17) nE).ev (x.σE L) = 17 - (x.n : Int) := by
  have := kn h
  show IntKind.i64.wrap (17 - nE.ev (x.σE L)) = _
  rw [yn h, i64_small (by omega) (by omega)]
theorem ycv : (SE.cv .u64 kE2).ev (x.σE L) = (x.key : Int) := by
  have := kn h
  show IntKind.u64.wrap (kE2.ev (x.σE L)) = _
  rw [yk2 h, u64_small (by omega) (by omega), h.kk]
/-! slabbed -/
def nb (x : Nl) : Nb := ⟨x.K, 0, 0, 0, x.key, true, 0, 0, 0, 0, x.whose⟩
theorem nb_ok : (nb x).OkS := ⟨h.K, Nat.zero_le _, by show 0 < 3; omega, by show 0 < 3; omega, h.key⟩
def slabA : Kc := kcSlab 0 (l 0) (.cv .u64 kE2) true false 2 3 0 5 4
def thA : Sub := { v := [(0, v 0), (1, l 0), (2, .cv .u64 kE2), (3, v 2), (4, v 3)] }
omit h in
theorem runSl : treeC Try.prog [] [(40, .int .i64)] (kcsS true true) [LS true false] 30 slabA.f (argS true false) ⟨[], [], ⟨5, 0, 0, 0⟩⟩ ((kcSlab 10 (v 11) (v 14) true false 12 13 0 15 14).leaf (thS false true 10 12 13 0 15 14)) (fS true) = true := by
  have h1 := runS [(40, .int .i64)] true false true
  rw [treeC_h (t := ⟨[], [], ⟨8, 3, 0, 0⟩⟩) (t' := ⟨[], [], ⟨5, 0, 0, 0⟩⟩) rfl] at h1
  exact h1
theorem facts_slab : ∀ q ∈ fS true, q.1.ev ((nb x).σS 0) = q.2 := by
  have hk := kn h
  have s0 : (v 0).ev ((nb x).σS 0) = (x.K : Int) := Nb.sev (by omega)
  have s1 : (v 1).ev ((nb x).σS 0) = 0 := Nb.sev (by omega)
  have s3 : (v 3).ev ((nb x).σS 0) = 0 := Nb.sev (by omega)
  have s4 : (v 4).ev ((nb x).σS 0) = 0 := Nb.sev (by omega)
  have s7 : (v 7).ev ((nb x).σS 0) = 0 := Nb.sev (by omega)
  have lt : ∀ y : Int, (l y).ev ((nb x).σS 0) = y := fun _ => rfl
  have ln2 : (SE.len (.lvar 2)).ev ((nb x).σS 0) = ((16 + 2 * x.k : Nat) : Int) := by
    show ((((nb x).σS 0) (ln 2)).toNat : Int) = _
    unfold Nb.σS
    rw [sg_oneN (L := natsI (lkI (nb x).k (nb x).a (nb x).key1 0)) (by omega) rfl, natsI_len, lkI_len]
    rfl
  intro q hq
  simp only [fS, fK, List.cons_append, List.nil_append, List.mem_cons, List.not_mem_nil, or_false] at hq
  rcases hq with rfl | rfl | rfl | rfl | rfl | rfl | rfl | rfl | rfl | rfl | rfl | rfl | rfl
  · exact lt_f s1 (lt 0) (by omega)
  · exact lt_t s1 (lt 1) (by omega)
  · exact lt_t s1 (lt 17) (by omega)
  · exact lt_f ln2 (lt 18) (by omega)
  · exact lt_t ln2 (lt 100) (by omega)
  · exact lt_f s7 (lt 0) (by omega)
  · exact lt_t s7 (lt 100) (by omega)
  · exact lt_f s0 (lt 0) (by omega)
  · exact lt_t s0 (lt 16) (by omega)
  · exact lt_f s3 (lt 0) (by omega)
  · exact lt_t s3 (lt 3) (by omega)
  · exact lt_f s4 (lt 0) (by omega)
  · exact lt_t s4 (lt 3) (by omega)
theorem kc_slab (fs) (ok : ∀ f ∈ fs, f.1.ev (x.σE L) = f.2) : @KcOk (nums [] [(40, .int .i64)] (roW A len cap) (x.σE L) Nb.Ωn fs ok) Try.prog slabA := by
  have hk := kn h
  have s0 : (v 0).ev ((nb x).σS 0) = (x.K : Int) := Nb.sev (by omega)
  have s2 : (v 2).ev ((nb x).σS 0) = (x.key : Int) := Nb.sev (by omega)
  have s3 : (v 3).ev ((nb x).σS 0) = 0 := Nb.sev (by omega)
  have s4 : (v 4).ev ((nb x).σS 0) = 0 := Nb.sev (by omega)
  have s5 : (v 5).ev ((nb x).σS 0) = ((nb x).P0 : Int) := Nb.sev (by omega)
  have s7 : (v 7).ev ((nb x).σS 0) = 0 := Nb.sev (by omega)
  have ex : (nb x).lS 0 40 = one x.whose := rfl
  refine kc_tree (σ1 := (nb x).σS 0) (Ω1 := Nb.Ωn) (A := argS true false) (pre := []) (B0 := ⟨5, 0, 0, 0⟩) (θ0 := thA) (kcs := kcsS true true) (lns := [LS true false]) (n := 30)
    (d := (kcSlab 10 (v 11) (v 14) true false 12 13 0 15 14).leaf (thS false true 10 12 13 0 15 14)) (fs1 := fS true) Back.mixed fn_slabbed rfl rfl rfl rfl rfl (Nb.kcs_slab (nb_ok h)) (Nb.lns_slab (nb_ok h) roW_40) (facts_slab h) runSl ?_ ?_ fs ok
  · refine agree_sgR (fun j p hp => by obtain rfl := roW_40 j p hp; exact ⟨by omega, LsRec.var' (by omega) rfl⟩) (by decide) (by decide) rfl (fun i hi => ?_) fun i hi => absurd hi (Nat.not_lt_zero i)
    have hi : i < 5 := hi
    match i, hi with
    | 0, _ => exact y0.symm
    | 1, _ => rfl
    | 2, _ => exact (ycv h).symm
    | 3, _ => exact y2.symm
    | 4, _ => exact y3.symm
    | i + 5, h => exact absurd h (by omega)
  · refine ⟨thS false true 0 2 3 0 5 4, ⟨6, 1, 0, rel + 2⟩, rfl, rfl, rfl, ?_⟩
    refine agree_sgR (fun j p hp => by obtain rfl := roW_40 j p hp; exact ⟨by omega, LsRec.var' (by omega) ex⟩) (by decide) (by decide) rfl (fun i hi => ?_) fun i hi => ?_
    · have hi : i < 6 := hi
      match i, hi with
      | 0, _ => exact s0.symm
      | 1, _ => exact (Nb.sev (n := nb x) (j := 0) (i := 1) (by omega)).symm
      | 2, _ => exact s3.symm
      | 3, _ => exact s4.symm
      | 4, _ => exact s2.symm
      | 5, _ =>
        show (1 : Int) = IntKind.i64.wrap ((v 7).ev ((nb x).σS 0) + 1)
        rw [s7]
        rfl
      | i + 6, h => exact absurd h (by omega)
    · obtain rfl : i = 0 := by have : i < 1 := hi; omega
      show LsRec _ (endL false true) (one (natsI (gB x.k x.key)))
      have r2 : LsRec ((nb x).σS 0) (.lvar 2) (one (natsI (lkI x.k 0 (key1 x.key) 0))) := LsRec.var' (by omega) rfl
      have r3 := r2.set (e := l 13) (i := 13) rfl s5 (by rw [natsI_len, lkI_len]; omega)
      rw [← Nb.nats_set] at r3
      exact r3
/-! the others -/
omit h in
theorem e_ls {q : Nat} {g : List Int} (hq : q < 64) (hg : x.lE L q = one g) : LsVal (x.σE L) q g := ls_sg hq hg
omit h in
theorem chE (h : x.Ok2) : Ex.valOf (x.σE L) (.agg (chA 0 2 3 4)) = cV (c2 x.k x.key) 0 0 := by
  show Value.agg #[.int .i64 1, .int .i64 2, .int .i64 ((kE 0).ev (x.σE L)), .int .i64 ((v 2).ev (x.σE L)), .int .i64 ((v 3).ev (x.σE L)), .int .u64 ((v 4).ev (x.σE L))] = _
  rw [yk h, y2, y3, y4]
  rfl
theorem cok : COk (c2 x.k x.key) 0 0 := by
  have hk := kn h
  refine ⟨?_, h.key⟩
  unfold chartPlaces.Ok
  show (1 : Int) ≤ ((1 : Nat) : Int) ∧ _
  simp only
  omega
theorem kcs_0 (hI : Inv x.k x.key x.n (x.st 260).g (x.st 260).ts L) (hL : L.length = x.n) : KcAll [] [(40, .int .i64)] (roW A len cap) Try.prog (x.σE L) Nb.Ωn kcs0 := by
  have hk := kn h
  have hlen := hI.slab.len
  have w9 : LsVal (x.σE L) 9 (natsI (x.st 260).g) := e_ls (by omega) rfl
  refine kcAll_more (kcAll_cons (fun fs ok => ?_) (kcAll_cons (fun fs ok => ?_) (kcAll_cons (fun fs ok => ?_) (kcAll_cons (fun fs ok => ?_) (kcAll_cons (fun fs ok => ?_) kcAll_nil))))) (kcAll_sl fun nn hn fs ok => ?_)
  · letI N : Nums := nums [] [(40, .int .i64)] (roW A len cap) (x.σE L) Nb.Ωn fs ok
    exact kc_bring (x := x.r1) (n := 6) rfl rfl (by show Value.int .i64 ((v 31).ev (x.σE L)) = _; rw [y31]) rfl (by omega) (by omega) h.w1 (by rw [h.e1]; exact y32)
  · letI N : Nums := nums [] [(40, .int .i64)] (roW A len cap) (x.σE L) Nb.Ωn fs ok
    exact kc_bring (x := x.r0) (n := 17 - (x.n : Int)) rfl rfl (by show Value.int .i64 ((v 30).ev (x.σE L)) = _; rw [y30]) (by show Value.int .i64 ((SE.bin .sub (l 17) nE).ev (x.σE L)) = _; rw [y17 h]) (by omega) (by omega) h.w0 (by rw [h.e0]; exact y33)
  · exact kc_slab h fs ok
  · letI N : Nums := nums [] [(40, .int .i64)] (roW A len cap) (x.σE L) Nb.Ωn fs ok
    have r2 : LsRec (x.σE L) (.lvar 2) (one (natsI (x.st 260).g)) := LsRec.var' (by omega) rfl
    exact kc_clone (g := (x.st 260).g) (by decide) r2.is (by rw [hlen]; exact yN h) (by omega) (by omega) w9
  · letI N : Nums := nums [] [(40, .int .i64)] (roW A len cap) (x.σE L) Nb.Ωn fs ok
    refine kc_pure rfl rfl rfl rfl rfl fn_works fun _ W w m hO => ?_
    exact works_in hO
  · letI N : Nums := nums [] [(40, .int .i64)] (roW A len cap) (x.σE L) Nb.Ωn fs ok
    have nil_ : ∀ q, q < 64 → x.lE L q = [] → LsVal (x.σE L) q [] := fun q hq hl => e_ls hq hl
    refine kc_see (c := c2 x.k x.key) (d := 0) (e := 0) (K := ⟨[⟨-1, [], 0, []⟩], [], false, [⟨⟨0, 0, false, false⟩, []⟩, ⟨⟨x.k - L.length, x.k, true, true⟩, L⟩]⟩) (g := (x.st 260).g) hn rfl (chE h) (cok h) hI.slab.w64 ?_ w9 (hI.slab.see hk.1 hk.2.1) ⟨?_, ?_, ?_, by decide, by decide⟩
    · rw [hlen]
      unfold Ch.words
      show 16 + 2 * x.k = 4 * 1 + 4 + 4 * 2 + 2 * x.k
      omega
    · exact ⟨⟨rfl, rfl⟩, ⟨eev (x := x) (L := L) (q := 50) (by omega), eev (x := x) (L := L) (q := 51) (by omega)⟩, ⟨nil_ 10 (by omega) rfl, nil_ 11 (by omega) rfl⟩, trivial⟩
    · exact ⟨rfl, nil_ 12 (by omega) rfl, rfl⟩
    · have hne : L.isEmpty = false := by
        cases L with
        | nil => exact absurd hL (by show ¬ 0 = x.n; omega)
        | cons _ _ => rfl
      refine ⟨rfl, ⟨eev (x := x) (L := L) (q := 53) (by omega), eev (x := x) (L := L) (q := 54) (by omega), rfl, rfl⟩, nil_ 13 (by omega) rfl, ?_, ⟨?_, eev (x := x) (L := L) (q := 58) (by omega), rfl, rfl⟩, e_ls (q := 14) (by omega) rfl, trivial⟩
      · exact hne.symm
      · show x.σE L 57 = ((x.k - L.length : Nat) : Int)
        have : x.σE L 57 = x.vE 57 := eev (x := x) (L := L) (q := 57) (by omega)
        rw [this]
        show (x.k : Int) - x.n = _
        rw [hL]
        omega
end
end Nl
end Go.Proofs.Ytcbljokbechppaa.Ball
