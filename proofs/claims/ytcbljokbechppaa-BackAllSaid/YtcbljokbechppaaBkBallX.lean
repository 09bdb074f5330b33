import Derived.Test.YtcbljokbechppaaBkBallV
/-
  wainscotlaw23.BackAll: its loops, and the whole. No condition.
-/
namespace Go.Proofs.Ytcbljokbechppaa.Ball
open Go Ex Mem See Fast Back
open Go.RowKit Go.ChangeShapes
namespace Nl
/-- while all is looked at -/
def vL (x : Nl) (j q : Nat) : Int := if q = 17 then j else x.vE q
def σL (x : Nl) (L : List Int) (j : Nat) : Nat → Int := sg (x.vL j) (x.lE L)
section
variable {x : Nl} (h : x.Ok2) {L : List Int} {A : Option Addr} {len cap : Nat}
theorem lev {j q : Nat} (hq : q < 2048) : (v q).ev (x.σL L j) = x.vL j q := by
  show sg (x.vL j) (x.lE L) q = _
  rw [sg_v hq]
theorem z17 {j : Nat} : (v 17).ev (x.σL L j) = (j : Int) := lev (by omega)
theorem z19 {j : Nat} : (v 19).ev (x.σL L j) = (x.n : Int) := by
  rw [lev (by omega)]
  rfl
theorem z0 {j : Nat} : (v 0).ev (x.σL L j) = (x.K : Int) := by
  rw [lev (by omega)]
  rfl
theorem vT_const {i i' j : Nat} (hj : j < 40) (j6 : j ≠ 6) (j18 : j ≠ 18) : x.vT i j = x.vT i' j := by
  unfold vT
  rw [List.getD_eq_getElem?_getD, List.getD_eq_getElem?_getD]
  match j, hj, j6, j18 with
  | 0, _, _, _ => rfl
  | 1, _, _, _ => rfl
  | 2, _, _, _ => rfl
  | 3, _, _, _ => rfl
  | 4, _, _, _ => rfl
  | 5, _, _, _ => rfl
  | 6, _, h, _ => exact absurd rfl h
  | 7, _, _, _ => rfl
  | 8, _, _, _ => rfl
  | 9, _, _, _ => rfl
  | 10, _, _, _ => rfl
  | 11, _, _, _ => rfl
  | 12, _, _, _ => rfl
  | 13, _, _, _ => rfl
  | 14, _, _, _ => rfl
  | 15, _, _, _ => rfl
  | 16, _, _, _ => rfl
  | 17, _, _, _ => rfl
  | 18, _, _, h => exact absurd rfl h
  | 19, _, _, _ => rfl
  | 20, _, _, _ => rfl
  | 21, _, _, _ => rfl
  | 22, _, _, _ => rfl
  | 23, _, _, _ => rfl
  | 24, _, _, _ => rfl
  | 25, _, _, _ => rfl
  | 26, _, _, _ => rfl
  | 27, _, _, _ => rfl
  | 28, _, _, _ => rfl
  | 29, _, _, _ => rfl
  | 30, _, _, _ => rfl
  | 31, _, _, _ => rfl
  | 32, _, _, _ => rfl
  | 33, _, _, _ => rfl
  | 34, _, _, _ => rfl
  | 35, _, _, _ => rfl
  | 36, _, _, _ => rfl
  | 37, _, _, _ => rfl
  | 38, _, _, _ => rfl
  | 39, _, _, _ => rfl
  | j + 40, h, _, _ => exact absurd h (by omega)
include h
theorem zk {j : Nat} : (kE 0).ev (x.σL L j) = (x.k : Int) := by
  have := kn h
  show IntKind.i64.wrap (1 + (v 0).ev (x.σL L j)) = _
  rw [z0, i64_small (by omega) (by omega)]
  omega
/-! the tasks as they are at first -/
omit h in
theorem recE_ev {e : SE} {o : Int} (he : e.ev (x.σE L) = o) : ∀ j, j < 64 → (recE e).evA (x.σE L) 0 j = ([2, 0, 50, 0, 0, 1, o, 0, 0, 0, 0, 0, 0, 0, 0, 0, 0] : List Int)[j]?.getD 0 := fun j _ => by
  subst he
  match j with
  | 0 => rfl
  | 1 => rfl
  | 2 => rfl
  | 3 => rfl
  | 4 => rfl
  | 5 => rfl
  | 6 => rfl
  | 7 => rfl
  | 8 => rfl
  | 9 => rfl
  | 10 => rfl
  | 11 => rfl
  | 12 => rfl
  | 13 => rfl
  | 14 => rfl
  | 15 => rfl
  | 16 => rfl
  | j + 17 => rfl
theorem objE_ev {j : Nat} (hj : j < x.n) : (objE2 (j : Int)).ev (x.σE L) = (objOf x.k j : Int) := by
  have := kn h
  show IntKind.i64.wrap (IntKind.i64.wrap (kE2.ev (x.σE L) - 1) - j) = _
  rw [yk2 h, i64_small (x := (x.k : Int) - 1) (by omega) (by omega), i64_small (by omega) (by omega)]
  unfold objOf
  omega
theorem listE_ev : ∀ m, m ≤ x.n → LsRec (x.σE L) (listE m) (recsT x.k (List.replicate m {}))
  | 0, _ => ⟨rfl, fun e j _ => by simp [listE, SE.evA, recsT]⟩
  | m + 1, hm => by
    have ih := listE_ev m (by omega)
    have := Ball.LsRec.snocR ih (recE_ev (objE_ev h (j := m) (by omega)))
    have e : recsT x.k (List.replicate (m + 1) {}) = recsT x.k (List.replicate m {}) ++ [[2, 0, 50, 0, 0, 1, (objOf x.k m : Int), 0, 0, 0, 0, 0, 0, 0, 0, 0, 0]] := by
      unfold recsT
      rw [List.length_replicate, List.length_replicate, List.range_succ, List.map_append]
      congr 1
      · apply List.map_congr_left
        intro j hj
        have hj := List.mem_range.1 hj
        congr 1
        rw [List.getD_eq_getElem?_getD, List.getD_eq_getElem?_getD, List.getElem?_replicate, List.getElem?_replicate, if_pos hj, if_pos (by omega)]
      · simp only [List.map_cons, List.map_nil]
        rw [List.getD_eq_getElem?_getD, List.getElem?_replicate, if_pos (by omega)]
        rfl
    rw [e]
    exact this
theorem lns_E (hI : Inv x.k x.key x.n (x.st 260).g (x.st 260).ts L) (hdone : ∀ (j : Nat) t, (x.st 260).ts[j]? = some t → t.en = 1) (hL : L.length = x.n) (hLk : ∀ y ∈ L, (x.k : Int) - x.n ≤ y) :
    LnAll [] [(40, .int .i64)] (roW A len cap) Try.prog 4 (x.σE L) Nb.Ωn [L2 x.n, L3] := by
  have hk := kn h
  refine lnAll_cons (fun fs ok c hc hck => ?_) (lnAll_cons (fun fs ok c hc hck => ?_) lnAll_nil)
  · refine ln_ok [] [(40, .int .i64)] (roW A len cap) Back.mixed (f := 4) (l := L2 x.n) (h0 := run2) (by kernel_rfl) rfl rfl rfl (fun i => i ≤ 260) (fun i => 260 - i) x.σT (fun _ => Nb.Ωn) (fun i hi => facts_2 h.toOk hi)
      (fun i hi => kcs_2 h.toOk h.wf hi) (fun _ _ => lnAll_nil) 0 (Nat.zero_le _) ?_ (fun i hi => ?_) fs ok c hc hck
    · show AgreeD _ ⟨40, 5, 0, 100⟩ _ _ _ _ _
      refine agree_sgR (fun j p hp => by obtain rfl := roW_40 j p hp; exact ⟨by omega, LsRec.var' (by omega) rfl⟩) (by decide) (by decide) rfl (fun j hj => ?_) fun q hq => ?_
      · have hj : j < 40 := hj
        by_cases j6 : j = 6
        · subst j6; rfl
        · by_cases j18 : j = 18
          · subst j18; exact y5.symm
          · rw [vAt_ne (j := 6) (r := [(18, v 5)]) rfl (fun h => j6 h.symm), vAt_ne (j := 18) (r := []) rfl (fun h => j18 h.symm), vAt_nil rfl]
            show _ = (v j).ev (x.σE L)
            rw [eev' hj]
            exact vT_const hj j6 j18
      · have hq : q < 5 := hq
        match q, hq with
        | 0, _ => exact LsRec.var' (q := 0) (by omega) rfl
        | 1, _ => exact listE_ev h x.n (Nat.le_refl _)
        | 2, _ => exact LsRec.var' (q := 0) (by omega) rfl
        | 3, _ => exact LsRec.var' (q := 3) (by omega) rfl
        | 4, _ => exact LsRec.var' (q := 4) (by omega) rfl
        | q + 5, hq => exact absurd hq (by omega)
    · exact round_2 h.toOk hi
  · have len1 : ∀ j, (SE.len (.lvar 1)).ev (x.σL L j) = (x.n : Int) := fun j => by
      show ((x.σL L j (ln 1)).toNat : Int) = _
      unfold σL
      rw [sg_ln (by omega)]
      show (((recsT x.k (x.st 260).ts).length : Int).toNat : Int) = _
      rw [recsT_len, hI.len]
      rfl
    have len14 : ∀ j, (SE.len (.lvar 14)).ev (x.σL L j) = (x.n : Int) := fun j => by
      show ((x.σL L j (ln 14)).toNat : Int) = _
      unfold σL
      rw [sg_oneN (L := L) (by omega) rfl, hL]
      rfl
    refine ln_ok [] [(40, .int .i64)] (roW A len cap) Back.mixed (f := 4) (l := L3) (h0 := run3) (by kernel_rfl) rfl rfl rfl (fun j => j ≤ x.n) (fun j => x.n - j) (x.σL L) (fun _ => Nb.Ωn) (fun j hj q hq => ?_)
      (fun _ _ => kcAll_nil) (fun _ _ => lnAll_nil) 0 (Nat.zero_le _) ?_ (fun j hj => ?_) fs ok c hc hck
    · have lt : ∀ y : Int, (l y).ev (x.σL L j) = y := fun _ => rfl
      simp only [f3, List.mem_cons, List.not_mem_nil, or_false] at hq
      rcases hq with rfl | rfl | rfl | rfl
      · exact lt_f z17 (lt 0) (by omega)
      · exact lt_t z17 (lt 7) (by omega)
      · exact lt_f z19 (lt 1) (by omega)
      · exact lt_t z19 (lt 7) (by omega)
    · show AgreeD _ ⟨70, 20, 0, 200⟩ _ _ _ _ _
      refine agree_sgR (fun j p hp => by obtain rfl := roW_40 j p hp; exact ⟨by omega, LsRec.var' (by omega) rfl⟩) (by decide) (by decide) rfl (fun j hj => ?_) fun q hq => ?_
      · have hj : j < 70 := hj
        by_cases j17 : j = 17
        · subst j17; rfl
        · rw [vAt_ne (j := 17) (r := []) rfl (fun h => j17 h.symm), vAt_nil rfl]
          show _ = (v j).ev (x.σE L)
          rw [eev (by omega)]
          unfold vL
          rw [if_neg j17]
      · rw [lAt_nil rfl]
        exact LsRec.var (by have : q < 20 := hq; omega)
    · refine ⟨fun hlt => ?_, fun hge => ?_⟩
      · have hlt : j < x.n := by
          have := of_decide_eq_true (show decide ((v 17).ev (x.σL L j) < (v 19).ev (x.σL L j)) = true from hlt)
          rw [z17, z19] at this
          omega
        have hjl : j < (x.st 260).ts.length := by rw [hI.len]; exact hlt
        have hat : (x.st 260).ts[j]? = some (x.st 260).ts[j] := List.getElem?_eq_getElem hjl
        refine ⟨fun _ => ⟨fun _ => ⟨fun _ => ⟨fun hbad => ?_, fun _ => ?_⟩, fun hbad => ?_⟩, fun hbad => ?_⟩, fun hbad => ?_⟩
        · have hbad := of_decide_eq_true (show decide ((SE.at (.lvar 14) (v 17) 0).ev (x.σL L j) < (SE.bin .sub (kE 0) (v 19)).ev (x.σL L j)) = true from hbad)
          have e1 : (SE.bin .sub (kE 0) (v 19)).ev (x.σL L j) = (x.k : Int) - x.n := by
            show IntKind.i64.wrap ((kE 0).ev (x.σL L j) - (v 19).ev (x.σL L j)) = _
            rw [zk h, z19, i64_small (by omega) (by omega)]
          have e2 : (SE.at (.lvar 14) (v 17) 0).ev (x.σL L j) = L.getD j 0 := by
            show sg (x.vL j) (x.lE L) (lc 14 ((v 17).ev (x.σL L j)).toNat 0) = _
            rw [z17, Int.toNat_natCast, sg_one (L := L) (by omega) rfl]
          rw [e1, e2, List.getD_eq_getElem?_getD, List.getElem?_eq_getElem (show j < L.length by omega)] at hbad
          have := hLk (L[j]'(by omega)) (List.getElem_mem _)
          simp only [Option.getD_some] at hbad
          omega
        · refine ⟨j + 1, by omega, by omega, ?_⟩
          show AgreeD _ ⟨70, 20, 0, 200⟩ _ _ _ _ _
          refine agree_sgR (fun j p hp => by obtain rfl := roW_40 j p hp; exact ⟨by omega, LsRec.var' (by omega) rfl⟩) (by decide) (by decide) rfl (fun i hi => ?_) fun q hq => ?_
          · have hi : i < 70 := hi
            by_cases i17 : i = 17
            · subst i17
              show ((j + 1 : Nat) : Int) = IntKind.i64.wrap ((v 17).ev (x.σL L j) + 1)
              rw [z17, i64_small (by omega) (by omega)]
              rfl
            · rw [vAt_ne (j := 17) (r := []) rfl (fun h => i17 h.symm), vAt_nil rfl]
              show _ = (v i).ev (x.σL L j)
              rw [lev (by omega)]
              unfold vL
              rw [if_neg i17, if_neg i17]
          · rw [lAt_nil rfl]
            exact LsRec.var (by have : q < 20 := hq; omega)
        · have hbad : ((at1 (v 17) 3).ev (x.σL L j) == 1) = false := hbad
          have e1 : (at1 (v 17) 3).ev (x.σL L j) = 1 := by
            show sg (x.vL j) (x.lE L) (lc 1 ((v 17).ev (x.σL L j)).toNat 3) = _
            rw [z17, Int.toNat_natCast, sg_lc (by omega) (by omega)]
            show (((recsT x.k (x.st 260).ts)[j]?).getD [])[3]?.getD 0 = _
            rw [recsT_at hat, Option.getD_some]
            show (((x.st 260).ts[j].en : Nat) : Int) = 1
            rw [hdone j _ hat]
            rfl
          rw [e1] at hbad
          cases hbad
        · have hbad := of_decide_eq_false (show decide ((v 17).ev (x.σL L j) < (SE.len (.lvar 14)).ev (x.σL L j)) = false from hbad)
          rw [z17, len14] at hbad
          omega
        · have hbad := of_decide_eq_false (show decide ((v 17).ev (x.σL L j) < (SE.len (.lvar 1)).ev (x.σL L j)) = false from hbad)
          rw [z17, len1] at hbad
          omega
      · have hjn : j = x.n := by
          have := of_decide_eq_false (show decide ((v 17).ev (x.σL L j) < (v 19).ev (x.σL L j)) = false from hge)
          rw [z17, z19] at this
          omega
        show AgreeD _ ⟨70, 20, 0, 200⟩ _ _ _ _ _
        refine agree_sgR (fun j p hp => by obtain rfl := roW_40 j p hp; exact ⟨by omega, LsRec.var' (by omega) rfl⟩) (by decide) (by decide) rfl (fun i hi => ?_) fun q hq => ?_
        · have hi : i < 70 := hi
          rw [vAt_nil rfl]
          show x.vE i = (v i).ev (x.σL L j)
          rw [lev (by omega)]
          unfold vL
          by_cases i17 : i = 17
          · subst i17
            rw [if_pos rfl, hjn]
            rfl
          · rw [if_neg i17]
        · rw [lAt_nil rfl]
          exact LsRec.var (by have : q < 20 := hq; omega)
theorem facts_E (hL : L.length = x.n) : ∀ q ∈ f0 x.n, q.1.ev (x.σE L) = q.2 := by
  have hk := kn h
  have lt : ∀ y : Int, (l y).ev (x.σE L) = y := fun _ => rfl
  have hc : (x.st 260).cnt ≤ 1 + 260 := cnt_run 260
  have hI := inv h.toOk (i := 260)
  have len2 : (SE.len (.lvar 2)).ev (x.σE L) = ((16 + 2 * x.k : Nat) : Int) := by
    obtain ⟨L', hI⟩ := hI
    show ((x.σE L (ln 2)).toNat : Int) = _
    unfold σE
    rw [sg_oneN (q := 2) (L := natsI (x.st 260).g) (by omega) (by simp [lE, lT]), natsI_len, hI.slab.len]
    rfl
  have len14 : (SE.len (.lvar 14)).ev (x.σE L) = (x.n : Int) := by
    show ((x.σE L (ln 14)).toNat : Int) = _
    unfold σE
    rw [sg_oneN (L := L) (by omega) rfl, hL]
    rfl
  have k19 : (SE.bin .sub (kE 0) (v 19)).ev (x.σE L) = (x.k : Int) - x.n := by
    show IntKind.i64.wrap ((kE 0).ev (x.σE L) - (v 19).ev (x.σE L)) = _
    rw [yk h, y19, i64_small (by omega) (by omega)]
  intro q hq
  simp only [f0, List.mem_cons, List.not_mem_nil, or_false] at hq
  rcases hq with rfl | rfl | rfl | rfl | rfl | rfl | rfl | rfl | rfl | rfl | rfl | rfl | rfl | rfl | rfl | rfl | rfl | rfl | rfl | rfl
  · exact eq_t y32 (lt _) rfl
  · exact eq_t (yk2 h) (yk h) rfl
  · exact eq_t (yn h) y19 rfl
  · exact eq_t (lt 0) y2 rfl
  · exact eq_t (lt 0) y3 rfl
  · exact eq_t y2 (lt 0) rfl
  · exact eq_t y3 (lt 0) rfl
  · exact eq_t y19 (lt _) rfl
  · exact eq_t (lt _) y19 rfl
  · exact lt_f y0 (lt 0) (by omega)
  · exact lt_t y0 (lt 16) (by omega)
  · exact lt_f y33 (lt 0) (by omega)
  · exact lt_t y33 (lt 17) (by omega)
  · exact lt_f len2 (lt 18) (by omega)
  · exact lt_t len2 (lt 100) (by omega)
  · exact lt_f y18 (lt 0) (by omega)
  · exact lt_t y18 (lt 1000) (by omega)
  · exact eq_t len14 y19 rfl
  · exact eq_t (eev (q := 57) (by omega)) k19 rfl
  · exact eq_f (eev (q := 59) (by omega)) (lt 0) (by show (1 : Int) ≠ 0; omega)
end
/-- .. of all such numbers -/
theorem law_of {x : Nl} (h : x.Ok2) (w : World) {A : Option Addr} {len cap : Nat} (hlc : len ≤ cap) (hcap : cap ≤ maxLen)
    (hb : x.whose.length = len) (hbc : ∀ a, A = some a → 0 < len → a.block < w.heap.size ∧ ∀ e, e < len → w.cell? (a.add e) = some ((ckOf (some .i64)).val (x.whose[e]?.getD 0))) (hbn : A = none → len = 0) :
    Calls Try.prog 4 #[.int .i64 x.r0, .int .i64 x.r1, .slice A len cap] w fun r w' => r = .returned (.bool true) ∧ Own w [] w' := by
  have hk := kn h
  obtain ⟨L, hI, hdone, hL, hLk⟩ := run_end (key := x.key) (whose := x.whose) h.n0 h.nk h.n6 hk.2.1
  have hI : Inv x.k x.key x.n (x.st 260).g (x.st 260).ts L := hI
  have ok := facts_E h hL
  have hb40 : x.σE L (ln 40) = (len : Int) := by
    unfold σE
    rw [sg_oneN (L := x.whose) (by omega) rfl, hb]
  have hc40 : ∀ e, x.σE L (lc 40 e 0) = x.whose[e]?.getD 0 := fun e => by
    unfold σE
    rw [sg_one (L := x.whose) (by omega) rfl, List.getD_eq_getElem?_getD]
  refine law_calls (f := 4) Back.mixed (kcs_0 (A := A) (len := len) (cap := cap) h hI hL) (lns_E h hI hdone hL hLk) ok (run0 ⟨x.n, by omega⟩ h.n0) rfl w tabs_nil ?_ ?_
  · intro i ck A' len' c' hck hro
    have hro : roW A len cap i = some (A', len', c') := hro
    obtain rfl := roW_40 _ _ hro
    have hro : some (A, len, cap) = some (A', len', c') := hro
    cases hro
    have hck : some (CK.int .i64) = some ck := hck
    cases hck
    refine ⟨show (x.σE L (ln 40)).toNat = len by rw [hb40]; rfl, fun a ha h0 => ?_⟩
    obtain ⟨h1, h2⟩ := hbc a ha h0
    refine ⟨h1, fun e he => ?_⟩
    rw [h2 e he]
    show some (Value.int .i64 _) = some (Value.int .i64 (x.σE L (lc 40 e 0)))
    rw [hc40]
  · letI N : Nums := nums [] [(40, .int .i64)] (roW A len cap) (x.σE L) Nb.Ωn (f0 x.n) ok
    show VRs (fun _ => none) [.sym .i64 (v 30), .sym .i64 (v 31), .rsl 40] [.int .i64 x.r0, .int .i64 x.r1, .slice A len cap]
    refine VRs.cons ?_ (VRs.cons ?_ (VRs.cons ?_ VRs.nil))
    · unfold VR
      show _ = Value.int .i64 ((v 30).ev (x.σE L))
      rw [y30]
    · unfold VR
      show _ = Value.int .i64 ((v 31).ev (x.σE L))
      rw [y31]
    · unfold VR
      exact ⟨A, len, cap, rfl, rfl, hlc, hcap, show (x.σE L (ln 40)).toNat = len by rw [hb40]; rfl, hbn⟩
end Nl
theorem nat_of6 (x m : Int) (hm : 1 ≤ m) : ∃ a : Nat, x % m = a ∧ (a : Int) < m := by
  have h1 := Int.emod_nonneg x (show m ≠ 0 by omega)
  have h2 := Int.emod_lt_of_pos x (show 0 < m by omega)
  generalize x % m = r at h1 h2
  exact ⟨r.toNat, by omega, by omega⟩
/-- THE LAW -/
theorem all_law (w : World) (n0 n1 : Int) (h0 : (Lit.int .i64 n0).wf = true) (h1 : (Lit.int .i64 n1).wf = true) (A : Option Addr) (len cap : Nat) (hlc : len ≤ cap) (hcap : cap ≤ maxLen) (hat : FlatAt w [some .i64] A len) :
    Calls Try.prog 4 #[.int .i64 n0, .int .i64 n1, .slice A len cap] w fun r w' => r = .returned (.bool true) ∧ Own w [] w' := by
  obtain ⟨whose, hwl, hbc, hbn, hwf⟩ := flat_list hat
  obtain ⟨a, ha, ha2⟩ := nat_of6 n1 6 (by omega)
  have a6 : a < 6 := by omega
  obtain ⟨b, hb, hb2⟩ := nat_of6 n0 (17 - ((a + 1 : Nat) : Int)) (by omega)
  refine Nl.law_of (x := ⟨a + b, a + 1, a + b + 1, n0, n1, whose⟩) ⟨⟨?_, ?_, ?_, ?_, ?_⟩, rfl, h0, h1, ?_, ?_, hwf⟩ w hlc hcap hwl hbc hbn
  · show a + b < 16
    omega
  · show 0 < a + 1
    omega
  · show a + 1 ≤ 6
    omega
  · show a + 1 ≤ a + b + 1
    omega
  · show a + b + 1 < 18446744073709551616
    omega
  · show n1 % 6 = ((a + 1 : Nat) : Int) - 1
    omega
  · show n0 % (17 - ((a + 1 : Nat) : Int)) = ((a + b + 1 : Nat) : Int) - ((a + 1 : Nat) : Int)
    rw [hb]
    omega
end Go.Proofs.Ytcbljokbechppaa.Ball
