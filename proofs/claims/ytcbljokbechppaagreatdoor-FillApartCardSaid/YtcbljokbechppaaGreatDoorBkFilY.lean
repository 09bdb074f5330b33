import Derived.Test.YtcbljokbechppaaGreatDoorBkFilX
/-
  fill.Step at a shelf: what is known of its calls, what is behind it. No condition.
-/
namespace Go.Proofs.YtcbljokbechppaaGreatDoor.Fil
open Go Ex Mem See
open Go.RowKit
def Ωn : Nat → Nat → Nat → Obj → Prop := fun _ _ _ _ => False
namespace Sf
section
variable {x : Sf} (h : x.Ok) {gs : List (Nat × List Int)} {rks : List (Nat × CK)} {ro : Nat → Option (Option Addr × Nat × Nat)}
include h
omit h in
theorem link_show {s : Nat} (hk : s < x.k) : showOf (linkF x.k s 0) (See.keyOf 9 s) 0 = some (lastI s) := by
  have := own_le s
  unfold linkF
  rw [if_pos ⟨hk, by omega⟩, show (if 0 + 1 < own s then ((0 : Nat) : Int) + 1 else -1) = lastI s from rfl]
  have := lastI_in s
  exact show_hide (by omega) (by omega)
theorem kcs_step : KcAll gs rks ro Tryz.prog x.σS Ωn x.way.kcs := by
  have h6 := h.n6
  have hk6 := h.k6
  have hj := jn h
  have hs := slab_lt h
  have ho := ok h
  have hd := h.inv.hold _ _ h.at_
  have htk := h.inv.tk
  have hr : x.r = recP x.k x.j x.p := rfl
  have hpk : x.σS 34 = (x.packF : Int) := ev_v (by omega)
  have hw := own_le x.p.slab
  unfold way
  cases hp : x.p with
  | p31 =>
    refine kcAll_cons (fun fs ok => ?_) kcAll_nil
    letI N : Nums := nums gs rks ro x.σS Ωn fs ok
    refine kc_partOf0 ?_
    show (w partE).ev x.σS = 0
    rw [xw (epart h) (by omega), w_part hj]
    rfl
  | p38 s =>
    rw [hp] at ho hd
    obtain ⟨h1, h2⟩ := ho
    have h3 : x.m.cut = x.m.tk := (hd rfl).2.1
    have h13 := x13 (x := x)
    rw [hp] at h13 hw
    refine kcAll_cons (fun fs ok => ?_) kcAll_nil
    letI N : Nums := nums gs rks ro x.σS Ωn fs ok
    have hw : 1 ≤ own s ∧ own s ≤ 5 := hw
    refine kc_counts (A := 5 - own s) (B := 5) (i := v 35) (o := l 5) (counts_kw h (s := s) (by rw [hp]; rfl) (by omega) h2) ?_ rfl (by omega) (by omega) (by omega)
    refine h13.trans ?_
    show 5 - (own s : Int) = _
    omega
  | p39 s =>
    rw [hp] at hr hw
    have h13 := x13 (x := x)
    rw [hp] at h13
    have hw : 1 ≤ own s ∧ own s ≤ 5 := hw
    refine kcAll_cons (fun fs ok => ?_) (kcAll_cons (fun fs ok => ?_) kcAll_nil)
    · letI N : Nums := nums gs rks ro x.σS Ωn fs ok
      refine kc_counts (A := 5 - own s) (B := 5) (i := v 35) (o := l 5) (K := v 9) ?_ ?_ rfl (by omega) (by omega) (by omega)
      · show (v 9).ev x.σS = _
        rw [ev_v (by omega)]
        show x.r.getD 10 0 = _
        rw [hr]
        rfl
      · refine h13.trans ?_
        show 5 - (own s : Int) = _
        omega
    · letI N : Nums := nums gs rks ro x.σS Ωn fs ok
      refine kc_pack (A := 5) (B := 5) (i := l 5) (o := l 5) (r := 34) rfl rfl (by omega) (by omega) (by omega) ?_
      show x.σS 34 = _
      rw [hpk]
      unfold packF
      rw [hp]
  | p40 s =>
    rw [hp] at ho
    have ho : s < x.m.tk := ho
    refine kcAll_cons (fun fs ok => ?_) kcAll_nil
    letI N : Nums := nums gs rks ro x.σS Ωn fs ok
    have e1 : (w linkE).ev x.σS = (linkF x.k s 0 : Int) := by
      rw [xw (elink h) (by omega), hp]
      have := w_link (n := x.n) (k := x.k) (m := x.m) (s := s) (o := 0) (by omega)
      exact congrArg _ this
    have e2 : keyE.ev x.σS = (See.keyOf 9 s : Int) := by rw [ekey h, hp]; rfl
    refine kc_show (i := 15) (n := 0) (r := 33) (s := lastI s) e1 (link_lt (by omega)) e2 ?_ x15 (by omega) (link_show (s := s) (by omega)) ?_
    · unfold See.keyOf
      exact Nat.mod_lt _ (by omega)
    · have : x.σS 33 = lastI x.p.slab := ev_v (by omega)
      rw [hp] at this
      exact this
  | p42 s =>
    rw [hp] at ho hr
    have ho : s < x.m.tk := ho
    have hl := lastI_in s
    refine kcAll_cons (fun fs ok => ?_) kcAll_nil
    letI N : Nums := nums gs rks ro x.σS Ωn fs ok
    refine kc_headW (i := 2) (j := 11) (r := 34) (a := (s : Int)) (b := lastI s) ?_ ?_ (by unfold headOk; omega) ?_
    · have : x.σS 2 = (x.p.slab : Int) := x2
      rw [hp] at this
      exact this
    · show x.σS 11 = _
      have : x.σS 11 = x.r.getD 12 0 := ev_v (by omega)
      rw [this, hr]
      rfl
    · show x.σS 34 = _
      rw [hpk]
      unfold packF
      rw [hp]
  | p34 =>
    simp only
    split <;> exact kcAll_nil
  | p35 =>
    simp only
    split <;> exact kcAll_nil
  | _ => exact kcAll_nil
/-- what is behind a step: the task, the words -/
def aft (x : Sf) : Ph × Mf := stepF x.k x.m x.j x.p
def r' (x : Sf) : List Int := recP x.k x.j x.aft.1
structure ToOk (x : Sf) : Prop where
  pc : x.way.to.pc.ev x.σS = x.r'.getD 2 0
  en : x.way.to.en.ev x.σS = x.r'.getD 3 0
  want : x.way.to.want.ev x.σS = x.r'.getD 4 0
  slab : x.way.to.slab.ev x.σS = x.r'.getD 5 0
  obj : x.way.to.obj.ev x.σS = x.r'.getD 6 0
  t : x.way.to.t.ev x.σS = x.r'.getD 8 0
  f : x.way.to.f.ev x.σS = x.r'.getD 9 0
  k : x.way.to.k.ev x.σS = x.r'.getD 10 0
  n : x.way.to.n.ev x.σS = x.r'.getD 11 0
  last : x.way.to.last.ev x.σS = x.r'.getD 12 0
  g : LsRec x.σS x.way.to.g (one (natsI (gF x.n x.k x.aft.2)))
theorem to_ok (hi : x.p.idle = false) : x.ToOk := by
  have h0 := h.n0
  have h6 := h.n6
  have hk6 := h.k6
  have hj := jn h
  have hs := slab_lt h
  have ho := ok h
  have hd := h.inv.hold _ _ h.at_
  have hh := h.inv.head _ _ h.at_
  have htk := h.inv.tk
  have hhd := h.inv.hd_le
  have r0 : LsRec x.σS (.lvar 0) (one (natsI (gF x.n x.k x.m))) := LsRec.var' (by omega) rfl
  have st : ∀ {L e y : SE} {g : List Nat} {i z : Nat}, LsRec x.σS L (one (natsI g)) → e.ev x.σS = (i : Int) → y.ev x.σS = (z : Int) → i < g.length → LsRec x.σS (.lset L e 0 y) (one (natsI (g.set i z))) := by
    intro L e y g i z hL he hy hi
    have e : natsI (g.set i z) = (natsI g).set i (z : Int) := by
      unfold natsI
      rw [List.map_set]
    rw [e]
    exact hL.set he hy (by rw [natsI_len]; exact hi)
  have hr : x.r = recP x.k x.j x.p := rfl
  have y2 : (v 2).ev x.σS = x.r.getD 5 0 := ev_v (by omega)
  have y8 : (v 8).ev x.σS = x.r.getD 9 0 := ev_v (by omega)
  have y9 : (v 9).ev x.σS = x.r.getD 10 0 := ev_v (by omega)
  have y10 : (v 10).ev x.σS = x.r.getD 11 0 := ev_v (by omega)
  have y11 : (v 11).ev x.σS = x.r.getD 12 0 := ev_v (by omega)
  have y4 : (v 34).ev x.σS = (x.packF : Int) := ev_v (by omega)
  have y3 : (v 33).ev x.σS = lastI x.p.slab := ev_v (by omega)
  have wlk : (w baseE).ev x.σS = (x.m.lk : Int) := by rw [xw (eb h) (by omega), w_lock]
  have wsh : (w shelfE).ev x.σS = ((if x.m.tk < x.k then x.m.tk + 1 else 0 : Nat) : Int) := by rw [xw (eshelf h) (by omega), w_shelf]
  have wnx : (w nextE).ev x.σS = (nextF x.k x.p.slab : Int) := by rw [xw (enext h) (by omega), w_next (wlt h)]
  have wpt : (w partE).ev x.σS = 0 := by rw [xw (epart h) (by omega), w_part hj]; rfl
  have wpt1 : (w (add partE (l 1))).ev x.σS = 0 := by rw [xw (epart1 h) (by omega), w_part1 hj]; rfl
  have whd1 : (w (add headE (l 1))).ev x.σS = (x.p.turnN : Int) := by rw [xw (ehead1 h) (by omega), w_turn hj, hh.2]
  have whe : (w heldE).ev x.σS = (x.m.hd : Int) := by rw [xw (eheld h) (by omega), w_held]
  have hg : (gF x.n x.k x.m).length = 76 + 4 * x.n := gF_len
  cases hp : x.p with
  | p30 =>
    have hw : x.way = .p30 := by unfold way; rw [hp]
    have ha : x.aft = (.p31, x.m) := by unfold aft; rw [hp]; rfl
    have hr' : x.r' = recP x.k x.j .p31 := by unfold r'; rw [ha]
    rw [hp] at hr
    rw [hr] at y2 y8 y9 y10 y11
    refine ⟨?_, ?_, ?_, ?_, ?_, ?_, ?_, ?_, ?_, ?_, ?_⟩ <;> rw [hw] <;> first | rw [hr'] | rw [ha]
    · rfl
    · rfl
    · rfl
    · exact y2
    · exact x15
    · exact wpt1
    · exact y8
    · exact y9
    · exact y10
    · exact y11
    · exact r0
  | p31 =>
    have hw : x.way = .p31 := by unfold way; rw [hp]
    have ha : x.aft = (.p34, x.m) := by unfold aft; rw [hp]; rfl
    have hr' : x.r' = recP x.k x.j .p34 := by unfold r'; rw [ha]
    rw [hp] at hr
    rw [hr] at y2 y8 y9 y10 y11
    refine ⟨?_, ?_, ?_, ?_, ?_, ?_, ?_, ?_, ?_, ?_, ?_⟩ <;> rw [hw] <;> first | rw [hr'] | rw [ha]
    · rfl
    · rfl
    · rfl
    · exact y2
    · exact x15
    · exact x14
    · exact y8
    · exact y9
    · exact wpt
    · exact y11
    · exact r0
  | p34 =>
    rw [hp] at hr
    rw [hr] at y2 y8 y9 y10 y11
    by_cases hl : x.m.lk = 0
    · have hw : x.way = .p34a := by unfold way; rw [hp]; simp only; rw [if_pos hl]
      have ha : x.aft = (.p35, { x.m with lk := 1 }) := by unfold aft; rw [hp]; simp only [stepF]; rw [if_pos hl]
      have hr' : x.r' = recP x.k x.j .p35 := by unfold r'; rw [ha]
      refine ⟨?_, ?_, ?_, ?_, ?_, ?_, ?_, ?_, ?_, ?_, ?_⟩ <;> rw [hw] <;> first | rw [hr'] | rw [ha]
      · rfl
      · rfl
      · rfl
      · exact y2
      · exact x15
      · exact x14
      · exact y8
      · exact y9
      · exact y10
      · exact y11
      · have := st r0 (eb h) (y := l 1) (z := 1) rfl (by omega)
        rw [set_lk] at this
        exact this
    · have hw : x.way = .p34b := by unfold way; rw [hp]; simp only; rw [if_neg hl]
      have ha : x.aft = (.p34, x.m) := by unfold aft; rw [hp]; simp only [stepF]; rw [if_neg hl]
      have hr' : x.r' = recP x.k x.j .p34 := by unfold r'; rw [ha]
      refine ⟨?_, ?_, ?_, ?_, ?_, ?_, ?_, ?_, ?_, ?_, ?_⟩ <;> rw [hw] <;> first | rw [hr'] | rw [ha]
      · rfl
      · rfl
      · rfl
      · exact y2
      · exact x15
      · exact x14
      · exact y8
      · exact y9
      · exact y10
      · exact y11
      · exact r0
  | p35 =>
    rw [hp] at hr
    rw [hr] at y2 y8 y9 y10 y11
    by_cases hl : x.m.tk < x.k
    · have hw : x.way = .p35a := by unfold way; rw [hp]; simp only; rw [if_pos hl]
      have ha : x.aft = (.p37 x.m.tk, x.m) := by unfold aft; rw [hp]; simp only [stepF]; rw [if_pos hl]
      have hr' : x.r' = recP x.k x.j (.p37 x.m.tk) := by unfold r'; rw [ha]
      rw [if_pos hl] at wsh
      refine ⟨?_, ?_, ?_, ?_, ?_, ?_, ?_, ?_, ?_, ?_, ?_⟩ <;> rw [hw] <;> first | rw [hr'] | rw [ha]
      · rfl
      · rfl
      · rfl
      · show IntKind.i64.wrap (IntKind.i64.wrap ((w shelfE).ev x.σS) - 1) = (x.m.tk : Int)
        rw [wsh, i64_small (x := ((x.m.tk + 1 : Nat) : Int)) (by omega) (by omega), i64_small (by omega) (by omega)]
        omega
      · exact x15
      · exact x14
      · exact y8
      · exact y9
      · refine wsh.trans ?_
        show _ = ((x.m.tk + 1 : Nat) : Int)
        rfl
      · exact y11
      · exact r0
    · have hw : x.way = .p35b := by unfold way; rw [hp]; simp only; rw [if_neg hl]
      have ha : x.aft = (.p36, x.m) := by unfold aft; rw [hp]; simp only [stepF]; rw [if_neg hl]
      have hr' : x.r' = recP x.k x.j .p36 := by unfold r'; rw [ha]
      rw [if_neg hl] at wsh
      refine ⟨?_, ?_, ?_, ?_, ?_, ?_, ?_, ?_, ?_, ?_, ?_⟩ <;> rw [hw] <;> first | rw [hr'] | rw [ha]
      · rfl
      · rfl
      · rfl
      · exact y2
      · exact x15
      · exact x14
      · exact y8
      · exact y9
      · exact wsh
      · exact y11
      · exact r0
  | p36 =>
    have hw : x.way = .p36 := by unfold way; rw [hp]
    have ha : x.aft = (.page, { x.m with lk := 0 }) := by unfold aft; rw [hp]; rfl
    have hr' : x.r' = recP x.k x.j .page := by unfold r'; rw [ha]
    rw [hp] at hr
    rw [hr] at y2 y8 y9 y10 y11
    refine ⟨?_, ?_, ?_, ?_, ?_, ?_, ?_, ?_, ?_, ?_, ?_⟩ <;> rw [hw] <;> first | rw [hr'] | rw [ha]
    · rfl
    · rfl
    · rfl
    · exact y2
    · exact x15
    · exact x14
    · exact y8
    · exact y9
    · exact y10
    · exact y11
    · have := st r0 (eb h) (y := l 0) (z := 0) rfl (by omega)
      rw [set_lk] at this
      exact this
  | page => rw [hp] at hi; cases hi
  | p37 s =>
    have hw : x.way = .p37 := by unfold way; rw [hp]
    have ha : x.aft = (.p38 s, x.m) := by unfold aft; rw [hp]; rfl
    have hr' : x.r' = recP x.k x.j (.p38 s) := by unfold r'; rw [ha]
    rw [hp] at hr ho hd
    obtain ⟨h1, h2⟩ := ho
    have h3 : x.m.cut = x.m.tk := (hd rfl).2.1
    rw [hr] at y2 y8 y9 y10 y11
    refine ⟨?_, ?_, ?_, ?_, ?_, ?_, ?_, ?_, ?_, ?_, ?_⟩ <;> rw [hw] <;> first | rw [hr'] | rw [ha]
    · rfl
    · rfl
    · rfl
    · exact y2
    · exact x15
    · exact x14
    · exact first_one h (s := s) (by rw [hp]; rfl) (by omega) h2
    · exact y9
    · exact y10
    · exact y11
    · exact r0
  | p38 s =>
    have hw : x.way = .p38 := by unfold way; rw [hp]
    have ha : x.aft = (.p39 s, x.m) := by unfold aft; rw [hp]; rfl
    have hr' : x.r' = recP x.k x.j (.p39 s) := by unfold r'; rw [ha]
    rw [hp] at hr ho hd
    obtain ⟨h1, h2⟩ := ho
    have h3 : x.m.cut = x.m.tk := (hd rfl).2.1
    rw [hr] at y2 y8 y9 y10 y11
    refine ⟨?_, ?_, ?_, ?_, ?_, ?_, ?_, ?_, ?_, ?_, ?_⟩ <;> rw [hw] <;> first | rw [hr'] | rw [ha]
    · rfl
    · rfl
    · rfl
    · exact y2
    · exact x15
    · exact x14
    · exact y8
    · exact counts_kw h (s := s) (by rw [hp]; rfl) (by omega) h2
    · exact y10
    · exact y11
    · exact r0
  | p39 s =>
    have hw : x.way = .p39 := by unfold way; rw [hp]
    have ha : x.aft = (.p46 s, { x.m with cut := s + 1 }) := by unfold aft; rw [hp]; rfl
    have hr' : x.r' = recP x.k x.j (.p46 s) := by unfold r'; rw [ha]
    have hpk : x.packF = packN 5 5 true true := by unfold packF; rw [hp]
    have e1 := efirst h
    have e2 := efirst1 h
    rw [hp] at hr ho hd e1 e2 hs
    have hs : s < 6 := hs
    have e1 : firstE.ev x.σS = ((4 * x.n + 4 + 4 * s : Nat) : Int) := e1
    have e2 : (add firstE (l 1)).ev x.σS = ((4 * x.n + 4 + 4 * s + 1 : Nat) : Int) := e2
    obtain ⟨h1, h2⟩ := ho
    have h3 : x.m.cut = x.m.tk := (hd rfl).2.1
    rw [hr] at y2 y8 y9 y10 y11
    have y8 : (v 8).ev x.σS = 1 := y8
    refine ⟨?_, ?_, ?_, ?_, ?_, ?_, ?_, ?_, ?_, ?_, ?_⟩ <;> rw [hw] <;> first | rw [hr'] | rw [ha]
    · rfl
    · rfl
    · rfl
    · exact y2
    · show IntKind.i64.wrap (IntKind.i64.wrap ((v 8).ev x.σS) - 1) = 0
      rw [y8]
      rfl
    · exact x14
    · exact y8
    · exact y9
    · exact y10
    · exact y11
    · rw [hpk] at y4
      have := st (st r0 e1 (y := l 0) (z := 0) rfl (by omega)) e2 y4 (by rw [List.length_set]; omega)
      rw [set_cut (by omega) h2 (by omega)] at this
      exact this
  | p46 s =>
    have hw : x.way = .p46 := by unfold way; rw [hp]
    have ha : x.aft = (.p47 s, x.m) := by unfold aft; rw [hp]; rfl
    have hr' : x.r' = recP x.k x.j (.p47 s) := by unfold r'; rw [ha]
    rw [hp] at hr wnx
    rw [hr] at y2 y8 y9 y10 y11
    refine ⟨?_, ?_, ?_, ?_, ?_, ?_, ?_, ?_, ?_, ?_, ?_⟩ <;> rw [hw] <;> first | rw [hr'] | rw [ha]
    · rfl
    · rfl
    · rfl
    · exact y2
    · exact x15
    · exact x14
    · exact y8
    · exact y9
    · exact wnx
    · exact y11
    · exact r0
  | p47 s =>
    have hw : x.way = .p47 := by unfold way; rw [hp]
    have ha : x.aft = (.p48 s, { x.m with tk := s + 1 }) := by unfold aft; rw [hp]; rfl
    have hr' : x.r' = recP x.k x.j (.p48 s) := by unfold r'; rw [ha]
    rw [hp] at hr
    rw [hr] at y2 y8 y9 y10 y11
    have y10 : (v 10).ev x.σS = (nextF x.k s : Int) := y10
    refine ⟨?_, ?_, ?_, ?_, ?_, ?_, ?_, ?_, ?_, ?_, ?_⟩ <;> rw [hw] <;> first | rw [hr'] | rw [ha]
    · rfl
    · rfl
    · rfl
    · exact y2
    · exact x15
    · exact x14
    · exact y8
    · exact y9
    · exact y10
    · exact y11
    · have := st r0 (eshelf h) y10 (by omega)
      rw [set_tk] at this
      exact this
  | p48 s =>
    have hw : x.way = .p48 := by unfold way; rw [hp]
    have ha : x.aft = (.p49 s, { x.m with hd := x.m.hd - 1 }) := by unfold aft; rw [hp]; rfl
    have hr' : x.r' = recP x.k x.j (.p49 s) := by unfold r'; rw [ha]
    rw [hp] at hr hd
    have h3 : x.m.hd = x.k - x.m.tk + 1 := (hd rfl).2.2
    rw [hr] at y2 y8 y9 y10 y11
    refine ⟨?_, ?_, ?_, ?_, ?_, ?_, ?_, ?_, ?_, ?_, ?_⟩ <;> rw [hw] <;> first | rw [hr'] | rw [ha]
    · rfl
    · rfl
    · rfl
    · exact y2
    · exact x15
    · exact x14
    · exact y8
    · exact y9
    · exact y10
    · exact y11
    · have e : (SE.ubin .add (w heldE) (l 18446744073709551615)).ev x.σS = ((x.m.hd - 1 : Nat) : Int) := by
        show IntKind.u64.wrap ((w heldE).ev x.σS + 18446744073709551615) = _
        rw [whe, IntKind.wrap_u64]
        omega
      have := st r0 (eheld h) e (by omega)
      rw [set_hd] at this
      exact this
  | p49 s =>
    have hw : x.way = .p49 := by unfold way; rw [hp]
    have ha : x.aft = (.p40 s, { x.m with lk := 0 }) := by unfold aft; rw [hp]; rfl
    have hr' : x.r' = recP x.k x.j (.p40 s) := by unfold r'; rw [ha]
    rw [hp] at hr
    rw [hr] at y2 y8 y9 y10 y11
    refine ⟨?_, ?_, ?_, ?_, ?_, ?_, ?_, ?_, ?_, ?_, ?_⟩ <;> rw [hw] <;> first | rw [hr'] | rw [ha]
    · rfl
    · rfl
    · rfl
    · exact y2
    · exact x15
    · exact x14
    · exact y8
    · exact y9
    · exact y10
    · exact y11
    · have := st r0 (eb h) (y := l 0) (z := 0) rfl (by omega)
      rw [set_lk] at this
      exact this
  | p40 s =>
    have hw : x.way = .p40 := by unfold way; rw [hp]
    have ha : x.aft = (.p41 s, x.m) := by unfold aft; rw [hp]; rfl
    have hr' : x.r' = recP x.k x.j (.p41 s) := by unfold r'; rw [ha]
    rw [hp] at hr y3
    rw [hr] at y2 y8 y9 y10 y11
    refine ⟨?_, ?_, ?_, ?_, ?_, ?_, ?_, ?_, ?_, ?_, ?_⟩ <;> rw [hw] <;> first | rw [hr'] | rw [ha]
    · rfl
    · rfl
    · rfl
    · exact y2
    · exact x15
    · exact x14
    · exact y8
    · exact y9
    · exact y10
    · exact y3
    · exact r0
  | p41 s =>
    have hw : x.way = .p41 := by unfold way; rw [hp]
    have ha : x.aft = (.p42 s, x.m) := by unfold aft; rw [hp]; rfl
    have hr' : x.r' = recP x.k x.j (.p42 s) := by unfold r'; rw [ha]
    rw [hp] at hr whd1
    rw [hr] at y2 y8 y9 y10 y11
    refine ⟨?_, ?_, ?_, ?_, ?_, ?_, ?_, ?_, ?_, ?_, ?_⟩ <;> rw [hw] <;> first | rw [hr'] | rw [ha]
    · rfl
    · rfl
    · rfl
    · exact y2
    · exact x15
    · exact whd1
    · exact y8
    · exact y9
    · exact y10
    · exact y11
    · exact r0
  | p42 s =>
    have hw : x.way = .p42 := by unfold way; rw [hp]
    have ha : x.aft = (.fin s, { x.m with head := putN x.m.head x.j (headW s (lastI s)), turn := putN x.m.turn x.j 1 }) := by unfold aft; rw [hp]; rfl
    have hr' : x.r' = recP x.k x.j (.fin s) := by unfold r'; rw [ha]
    have hpk : x.packF = headW s (lastI s) := by unfold packF; rw [hp]
    rw [hp] at hr
    rw [hr] at y2 y8 y9 y10 y11
    refine ⟨?_, ?_, ?_, ?_, ?_, ?_, ?_, ?_, ?_, ?_, ?_⟩ <;> rw [hw] <;> first | rw [hr'] | rw [ha]
    · rfl
    · rfl
    · rfl
    · exact y2
    · exact x15
    · exact x14
    · exact y8
    · exact y9
    · exact y10
    · exact y11
    · rw [hpk] at y4
      have e : (SE.ubin .add (v 14) (l 1)).ev x.σS = ((1 : Nat) : Int) := by
        show IntKind.u64.wrap ((v 14).ev x.σS + 1) = _
        rw [x14]
        rfl
      have := st (st r0 (ehead h) y4 (by omega)) (ehead1 h) e (by rw [List.length_set]; omega)
      rw [set_head hj] at this
      exact this
  | fin s => rw [hp] at hi; cases hi
end
end Sf
end Go.Proofs.YtcbljokbechppaaGreatDoor.Fil
