/-
  Texts of this claim, joined. No condition.
-/
import Derived.Test.YtigakendeghoaaaFs7
import Derived.Test.YtigakendeghoaaaFs8
/-
  Contracts: slabs, one behind the other (reader.chain). No condition. (Printed by mkchain.py.)
-/
namespace Go.Proofs.Ytigakendeghoaaa.See
open Go.RowKit
open chartPlaces (Ok)
attribute [local go_sem ↓] Go.wp_at_zero Go.wp_at_succ
section
variable {W w : World} {M m : List (Nat × Obj)} {B o N k b ck n : Nat} {g : List Nat} {c : Ch} {d e : Int} {es : Array MapEntry} {f : Int → Option Int}
theorem run_mapAt (h : IM es n f) (hb : w.heap[b]? = some (.map es ck)) {k : Int} (hk : (Lit.int .i64 k).wf = true) :
    (Instr.lookup 118 (.map (some b)) (.int .i64 k) false).run Try.prog w = .ok (.int .i64 ((f k).getD 0)) w := by
  have hkey := keyOf_i64 hk
  have K := int_keyed'
  rcases K.find w hkey es.toList h.keysOk with ⟨h1, h2⟩ | ⟨j, e0, h1, h2, h3⟩
  · have hf := h.none_of h2
    simp [Instr.lookup, run_underlying Try.underlying118, MapKept.run_getObj_map hb, K.check w _ hkey, h1, Result.andThen, hf]
  · have hm := List.mem_of_getElem? h2
    obtain ⟨k', c, e1, e2, -⟩ := h.ints e0 hm
    have hf : f k = some c := (h.fits k c).2 ⟨e0, hm, h3, e2⟩
    simp [Instr.lookup, run_underlying Try.underlying118, MapKept.run_getObj_map hb, K.check w _ hkey, h1, Result.andThen, hf, e2]
theorem wpList_mapAt {ops : Array Oper} {rest : List Oper} {o : Oper} {a : Act} {Q : Exit → Act → World → Prop} (hg : o.guard = none) (m x : Operand) (hop : o.op = Op.lookup 118 m x false) {k : Int} (hm : a.eval m = .map (some b)) (hx : a.eval x = .int .i64 k)
    (h : IM es n f) (hb : w.heap[b]? = some (.map es ck)) (hk : (Lit.int .i64 k).wf = true)
    (hK : wpList Try.prog ops Q rest (a.put o.dst (.int .i64 ((f k).getD 0))) w) : wpList Try.prog ops Q (o :: rest) a w := by
  refine wpList_plain hg fun K' hK' => ?_
  unfold Oper.wp
  simp [execOp, hop, hm, hx, run_mapAt h hb hk, Result.andThen]
  exact hK' _ _ hK
/-- which slabs were seen -/
def seen (out : List Int) : Int → Option Int := fun s => if s ∈ out then some 1 else none
theorem seen_put (out : List Int) (s : Int) : fPut (seen out) s 1 = seen (out ++ [s]) := by
  funext j
  unfold fPut seen
  by_cases hj : j = s
  · subst hj; simp
  · by_cases ho : j ∈ out <;> simp [hj, ho]
theorem seen_nil : seen [] = fun _ => none := by
  funext j
  simp [seen]
theorem seen_yes {out : List Int} {s : Int} (h : s ∈ out) : (seen out s).getD 0 = 1 := by simp [seen, h]
theorem seen_no {out : List Int} {s : Int} (h : s ∉ out) : (seen out s).getD 0 = 0 := by simp [seen, h]
/-- what a word says of a slab -/
def OfPost (r : Option Int) (e : Ending) : Prop := match r with
  | some s => e = .returned (.tuple #[.int .i64 s, .bool true])
  | none => ∃ v : Int, e = .returned (.tuple #[.int .i64 v, .bool false])
def ofP (w : Nat) : Option Int := (partOf w).map (·.1)
set_option maxRecDepth 100000 in
theorem ofP_spec (x : Nat) (hx : x < 18446744073709551616) (w : World) : Calls Try.prog 82 #[.int .u64 x] w fun e w' => OfPost (ofP x) e ∧ w = w' := by
  have hp := fun w => partOf_spec x hx w
  unfold partV at hp
  unfold ofP
  clear hx
  cases hc : partOf x with
  | none =>
    rw [hc] at hp
    have HP := Lib.hid hp
    clear hp hc
    go_enter Try.func82, Try.ntmps82
    go_wp2_with (go_at_call 104; refine (HP.out _).mono ?_; rintro e w' ⟨rfl, rfl⟩)
    go_ret2
    exact ⟨⟨_, rfl⟩, rfl⟩
  | some q =>
    obtain ⟨s, n⟩ := q
    rw [hc] at hp
    have HP := Lib.hid hp
    clear hp hc
    go_enter Try.func82, Try.ntmps82
    go_wp2_with (go_at_call 104; refine (HP.out _).mono ?_; rintro e w' ⟨rfl, rfl⟩)
    go_ret2
    exact ⟨rfl, rfl⟩
theorem ofP_ge {w : Nat} {s : Int} (h : ofP w = some s) : -1 ≤ s ∧ s < 32 := by
  unfold ofP partOf at h
  split at h
  · simp at h; omega
  · split at h
    · simp at h; omega
    · cases h
theorem ofS_ge {w : Nat} {s : Int} (h : shelfOf w = some s) : -1 ≤ s ∧ s < 32 := by
  unfold shelfOf at h
  split at h
  · simp at h; omega
  · cases h
set_option maxRecDepth 100000 in
theorem ofS_spec (x : Nat) (hx : x < 18446744073709551616) (w : World) : Calls Try.prog 66 #[.int .u64 x] w fun e w' => OfPost (shelfOf x) e ∧ w = w' := by
  unfold shelfOf
  by_cases hc : x ≤ 32
  · rw [if_pos hc]
    have hci : decide ((x : Int) ≤ 32) = true := decide_eq_true (by omega)
    clear hx
    go_enter Try.func66, Try.ntmps66
    go_wp2_with fail
    go_ret2
    exact ⟨rfl, rfl⟩
  · rw [if_neg hc]
    have hci : decide ((x : Int) ≤ 32) = false := decide_eq_false (by omega)
    clear hx
    go_enter Try.func66, Try.ntmps66
    go_wp2_with fail
    go_ret2
    exact ⟨⟨_, rfl⟩, rfl⟩
/-- what chain answers -/
def ChPost (W : World) (m : List (Nat × Obj)) (r : Option (List Int)) (e : Ending) (w' : World) : Prop := match r with
  | some l => ∃ v bs, e = .returned (.tuple #[v, .bool true]) ∧ Hid (IntsOwn true v l bs) ∧ Own W (bs ++ m) w'
  | none => e = .returned (.tuple #[.slice none 0 0, .bool false]) ∧ Own W m w'
set_option maxRecDepth 100000 in
set_option maxHeartbeats 4000000 in
theorem rchain_p (h : Own W m w) (hc : COk c d e) (hw : WOk W m B o N k g c) (x0 : Nat) (hx0 : x0 < 18446744073709551616) :
    Calls Try.prog 65 #[rV B o N k c d e, .int .u64 x0, .func (.func 82) #[] #[]] w (ChPost W m (chain ofP (nextAt c g) c.S (c.S + 1) [] x0)) := by
  obtain ⟨n1, n2, n3, n4, n5, n6⟩ := hc.nums
  have h1 := (h.new (.cells #[.slice (some ⟨B, o, none⟩) N k, .int .i64 c.C, .int .i64 c.S, .int .i64 c.O, .int .i64 d, .int .i64 e, .int .u64 c.key] 84)).new (.map #[] 0)
  obtain ⟨b, hb⟩ : ∃ b, w.heap.size = b := ⟨_, rfl⟩
  simp only [World.size_alloc] at h1
  rw [hb] at h1
  have h1 : Own W ((b + 1, .map #[] 0) :: (rBlk b B o N k c d e :: m)) _ := h1
  obtain ⟨R, hR⟩ : ∃ R, chain ofP (nextAt c g) c.S (c.S + 1) [] x0 = R := ⟨_, rfl⟩
  have HR := Lib.hid hR
  have HC := Lib.hid hc
  have HW := Lib.hid hw
  have HX0 := Lib.hid hx0
  have him : IM #[] 0 (seen []) := by rw [seen_nil]; exact IM.nil
  have HIM := Lib.hid him
  rw [hR]
  clear hR hc hx0 him hw
  have hmm := fun w : World => run_makeMap (P := Try.prog) 118 w
  unfold rV
  go_enter Try.func65, Try.ntmps65
  go_wp2_with fail
  clear hmm
  obtain ⟨wa, hwa⟩ : ∃ wa, (w.alloc (.cells #[.slice (some ⟨B, o, none⟩) N k, .int .i64 c.C, .int .i64 c.S, .int .i64 c.O, .int .i64 d, .int .i64 e, .int .u64 c.key] 84)).alloc (.map #[] 0) = wa := ⟨_, rfl⟩
  rw [hwa] at h1 ⊢
  have H1 := Lib.hid h1
  clear h1 hwa h hb
  go_loopw [1, 6] (fun xv ov wr => ∃ (x : Nat) (out : List Int) (bs : List (Nat × Obj)) (es : Array MapEntry) (ck : Nat), xv = .int .u64 x ∧ Hid (x < 18446744073709551616) ∧ Hid (out.Nodup ∧ ∀ y ∈ out, 0 ≤ y ∧ y < c.S) ∧ Hid (chain ofP (nextAt c g) c.S (c.S + 1 - out.length) out x = R) ∧ Hid (IntsOwn true ov out bs) ∧ Hid (IM es out.length (seen out)) ∧ Own W ((b + 1, .map es ck) :: (bs ++ (rBlk b B o N k c d e :: m))) wr) (fun _ ov _ => 33 - slLen ov)
  case atStart => exact ⟨x0, [], [], #[], 0, rfl, HX0, ⟨List.nodup_nil, fun x hx => (by simp at hx)⟩, HR, SlO.nil _ _ _, HIM, H1.out⟩
  case round =>
    clear H1 HR HX0 HIM
    obtain ⟨x, out, bs, es, ck, rfl, HX, HND, HWK, HO, HIM, hr⟩ := hrel
    obtain ⟨A8, c8, hv, -, -⟩ := HO.out.slice
    subst hv
    have hfew := few HND.out.1 HND.out.2
    obtain ⟨z, hz⟩ : ∃ z, out.length = z := ⟨_, rfl⟩
    have HZ := Lib.hid hz
    rw [hz] at hfew
    have hO2 : IntsOwn true (.slice A8 z c8) out bs := by have := HO.out; rw [hz] at this; exact this
    have HO2 := Lib.hid hO2
    have hof := fun w => ofP_spec x HX.out w
    have hk := HWK.out
    rw [hz, show c.S + 1 - z = (c.S - z) + 1 by omega] at hk
    unfold chain at hk
    rw [hz]
    have HRW := Lib.hid hr
    have hrb := (hr.skip.perm List.perm_middle)
    obtain ⟨y0, y1, y2, y3, y4, y5, y6⟩ := box7 hrb
    clear hO2 HWK hz
    cases hs : ofP x with
    | none =>
      rw [hs] at hof hk
      have HOF := Lib.hid hof
      have HK2 := Lib.hid hk
      clear hof hk hs hrb
      go_wp2_with (go_at_call 82; refine (HOF.out _).mono ?_; rintro e w5 ⟨⟨v5, rfl⟩, rfl⟩)
      go_ret2
      rw [← HK2.out]
      exact ⟨rfl, hr.skip.dropL.skip⟩
    | some s =>
      rw [hs] at hof hk
      simp only at hk
      have HOF := Lib.hid hof
      obtain ⟨s0, s1⟩ := ofP_ge hs
      clear hof hs
      by_cases hS : (c.S : Int) ≤ s
      · rw [if_pos (.inl hS)] at hk
        have HK2 := Lib.hid hk
        clear hk hrb
        go_wp2_with (go_at_call 82; refine (HOF.out _).mono ?_; rintro e w5 ⟨rfl, rfl⟩)
        go_ret2
        rw [← HK2.out]
        exact ⟨rfl, hr.skip.dropL.skip⟩
      · have hSn : ¬ (c.S : Int) ≤ s := hS
        have hwf : (Lit.int .i64 s).wf = true := by simp [Lit.wf, IntKind.min, IntKind.max, IntKind.signed, IntKind.bits]; omega
        have HWF := Lib.hid hwf
        have hgm := hr.get List.mem_cons_self
        clear hwf
        by_cases hin : s ∈ out
        · rw [if_pos (.inr hin)] at hk
          have HK2 := Lib.hid hk
          have hg1 := seen_yes hin
          clear hk hrb
          go_wp2_with (first | (go_at_call 82; refine (HOF.out _).mono ?_; rintro e w5 ⟨rfl, rfl⟩) | (at_lookup; refine wpList_mapAt rfl _ _ rfl rfl rfl HIM.out hgm HWF.out ?_; rw [hg1]))
          go_ret2
          rw [← HK2.out]
          exact ⟨rfl, hr.skip.dropL.skip⟩
        · rw [if_neg (by intro hh; exact hh.elim hS hin)] at hk
          have hg1 := seen_no hin
          by_cases hm1 : s = -1
          · rw [if_pos hm1] at hk
            subst hm1
            have HK2 := Lib.hid hk
            clear hk hrb
            go_wp2_with (first | (go_at_call 82; refine (HOF.out _).mono ?_; rintro e w5 ⟨rfl, rfl⟩) | (at_lookup; refine wpList_mapAt rfl _ _ rfl rfl rfl HIM.out hgm HWF.out ?_; rw [hg1]))
            go_ret2
            rw [← HK2.out]
            exact ⟨_, bs, rfl, HO2, hr.skip.drop1⟩
          · rw [if_neg hm1] at hk
            have hsb : (s == -1) = false := beq_eq_false_iff_ne.2 hm1
            obtain ⟨j, rfl⟩ : ∃ j : Nat, s = j := ⟨s.toNat, by omega⟩
            have hjS : j < c.S := by omega
            have hji : 0 ≤ (j : Int) ∧ (j : Int) < (c.S : Int) := by omega
            have HJ := Lib.hid hji
            have hN := HW.out.n
            unfold Ch.words at hN
            have hpN : 4 * c.C + 4 + 4 * j + 2 < N := by omega
            obtain ⟨p, hp⟩ : ∃ p : Nat, 4 * c.C + 4 + 4 * j + 2 = p := ⟨_, rfl⟩
            have hpi : 4 * (c.C : Int) + 4 + 4 * (j : Int) + 2 = (p : Int) := by omega
            have HPI := Lib.hid hpi
            rw [hp] at hpN
            have hp0 : (0 : Int) ≤ (p : Int) := by omega
            have hp1 : (p : Int) < (N : Int) := by omega
            obtain ⟨x', hx'⟩ : ∃ x', g[p]? = some x' := ⟨_, List.getElem?_eq_getElem (by rw [HW.out.len]; exact hpN)⟩
            have hna : nextAt c g (j : Int) = x' := by
              unfold nextAt at_
              rw [Int.toNat_natCast, hp, List.getD_eq_getElem?_getD, hx']
              rfl
            rw [hna] at hk
            have HX' : Hid (x' < 18446744073709551616) := HW.out.w64 x' (List.mem_of_getElem? hx')
            have HXP := Lib.hid hx'
            have hlt := few_lt HND.out.1 HND.out.2 hji.1 hji.2 hin
            rw [HZ.out] at hlt
            have HND2 : Hid ((out ++ [(j : Int)]).Nodup ∧ ∀ y ∈ out ++ [(j : Int)], 0 ≤ y ∧ y < c.S) := by
              refine ⟨List.nodup_append.2 ⟨HND.out.1, by simp, fun a ha b hb he => ?_⟩, fun y hy => ?_⟩
              · simp at hb
                subst hb
                subst he
                exact hin ha
              · rcases List.mem_append.1 hy with hy | hy
                · exact HND.out.2 y hy
                · simp at hy
                  subst hy
                  exact hji
            have HK2 : Hid (chain ofP (nextAt c g) c.S (c.S + 1 - (out ++ [(j : Int)]).length) (out ++ [(j : Int)]) x' = R) := by
              show _ = _
              rw [List.length_append, HZ.out, List.length_singleton, show c.S + 1 - (z + 1) = c.S - z by omega]
              exact hk
            have HLEN : Hid (out.length + [(j : Int)].length ≤ 60000) := by
              show _ ≤ _
              rw [HZ.out]
              simp
              omega
            have HLM : Hid (out.length < maxLen) := by
              show _ < _
              rw [HZ.out]
              unfold maxLen
              omega
            clear hk hN hp hpi hx' hna hrb
            go_wp2_with (first | (go_at_call 82; refine (HOF.out _).mono ?_; rintro e w5 ⟨rfl, rfl⟩) | (at_lookup; refine wpList_mapAt rfl _ _ rfl rfl rfl HIM.out hgm HWF.out ?_; rw [hg1]) |
              (at_mapUpdate; refine wpList_mapPut rfl _ _ _ rfl rfl rfl rfl HIM.out HRW.out HLM.out HWF.out ?_; intro es' ck' w' k1 k2; rw [seen_put] at k1; have K1 := Lib.hid k1; have H2 := Lib.hid ((k2.perm List.perm_middle.symm).alloc (.cells #[.int .i64 (j : Int)] 3)); have HSRC := Lib.hid (src_one w' (j : Int)); clear k1 k2 y0 y1 y2 y3 y4 y5 y6 hgm) |
              (at_builtin; refine wpList_app_ints rfl _ _ rfl rfl rfl HO2.out H2.out HSRC.out HLEN.out ?_; intro v' w' bs' q1 q2 q3; have Q1 := Lib.hid q1; have Q2 := Lib.hid q2; obtain ⟨y0, y1, y2, y3, y4, y5, y6⟩ := box7 q2.dropL.skip; have cx := HW.out.rd _ q2.dropL.skip.skip p x' HXP.out; clear q1 q2 q3))
            go_region_held3 (fun w' => w'.cell? ⟨b, 0, none⟩ = some (.slice (some ⟨B, o, none⟩) N k) ∧ w'.cell? ⟨b, 1, none⟩ = some (.int .i64 c.C) ∧ w'.cell? ⟨b, 2, none⟩ = some (.int .i64 c.S) ∧ w'.cell? ⟨b, 3, none⟩ = some (.int .i64 c.O) ∧ w'.cell? ⟨b, 4, none⟩ = some (.int .i64 d) ∧ w'.cell? ⟨b, 5, none⟩ = some (.int .i64 e) ∧ w'.cell? ⟨b, 6, none⟩ = some (.int .u64 c.key) ∧ w'.cell? ⟨B, o + p, none⟩ = some (.int .u64 (x' : Int))) (first | (refine ⟨?_, ?_, ?_, ?_, ?_, ?_, ?_, ?_⟩ <;> assumption) | go_keep)
              (first | (go_at_call 19; refine (Apart.next_ok HC.out.ok HJ.out Q2.out.drew).mono ?_; rintro r w6 ⟨rfl, h6⟩; rw [HPI.out]; obtain ⟨y0, y1, y2, y3, y4, y5, y6⟩ := box7 h6.dropL.skip; have cx := HW.out.rd _ h6.dropL.skip.skip p x' HXP.out))
            go_wp2_with fail
            obtain ⟨A9, c9, hv9, -, -⟩ := Q1.out.slice
            rw [List.length_append, HZ.out, List.length_singleton] at hv9
            refine ⟨⟨x', _, bs', es', ck', rfl, HX', HND2, HK2, Q1, ?_, ?_⟩, ?_⟩
            · show IM es' (out ++ [(j : Int)]).length _
              rw [List.length_append, List.length_singleton]
              exact K1.out
            · exact h6.perm List.perm_middle
            · rw [hv9]
              simp [slLen]
              omega
set_option maxRecDepth 100000 in
set_option maxHeartbeats 4000000 in
theorem rchain_s (h : Own W m w) (hc : COk c d e) (hw : WOk W m B o N k g c) (x0 : Nat) (hx0 : x0 < 18446744073709551616) :
    Calls Try.prog 65 #[rV B o N k c d e, .int .u64 x0, .func (.func 66) #[] #[]] w (ChPost W m (chain shelfOf (nextAt c g) c.S (c.S + 1) [] x0)) := by
  obtain ⟨n1, n2, n3, n4, n5, n6⟩ := hc.nums
  have h1 := (h.new (.cells #[.slice (some ⟨B, o, none⟩) N k, .int .i64 c.C, .int .i64 c.S, .int .i64 c.O, .int .i64 d, .int .i64 e, .int .u64 c.key] 84)).new (.map #[] 0)
  obtain ⟨b, hb⟩ : ∃ b, w.heap.size = b := ⟨_, rfl⟩
  simp only [World.size_alloc] at h1
  rw [hb] at h1
  have h1 : Own W ((b + 1, .map #[] 0) :: (rBlk b B o N k c d e :: m)) _ := h1
  obtain ⟨R, hR⟩ : ∃ R, chain shelfOf (nextAt c g) c.S (c.S + 1) [] x0 = R := ⟨_, rfl⟩
  have HR := Lib.hid hR
  have HC := Lib.hid hc
  have HW := Lib.hid hw
  have HX0 := Lib.hid hx0
  have him : IM #[] 0 (seen []) := by rw [seen_nil]; exact IM.nil
  have HIM := Lib.hid him
  rw [hR]
  clear hR hc hx0 him hw
  have hmm := fun w : World => run_makeMap (P := Try.prog) 118 w
  unfold rV
  go_enter Try.func65, Try.ntmps65
  go_wp2_with fail
  clear hmm
  obtain ⟨wa, hwa⟩ : ∃ wa, (w.alloc (.cells #[.slice (some ⟨B, o, none⟩) N k, .int .i64 c.C, .int .i64 c.S, .int .i64 c.O, .int .i64 d, .int .i64 e, .int .u64 c.key] 84)).alloc (.map #[] 0) = wa := ⟨_, rfl⟩
  rw [hwa] at h1 ⊢
  have H1 := Lib.hid h1
  clear h1 hwa h hb
  go_loopw [1, 6] (fun xv ov wr => ∃ (x : Nat) (out : List Int) (bs : List (Nat × Obj)) (es : Array MapEntry) (ck : Nat), xv = .int .u64 x ∧ Hid (x < 18446744073709551616) ∧ Hid (out.Nodup ∧ ∀ y ∈ out, 0 ≤ y ∧ y < c.S) ∧ Hid (chain shelfOf (nextAt c g) c.S (c.S + 1 - out.length) out x = R) ∧ Hid (IntsOwn true ov out bs) ∧ Hid (IM es out.length (seen out)) ∧ Own W ((b + 1, .map es ck) :: (bs ++ (rBlk b B o N k c d e :: m))) wr) (fun _ ov _ => 33 - slLen ov)
  case atStart => exact ⟨x0, [], [], #[], 0, rfl, HX0, ⟨List.nodup_nil, fun x hx => (by simp at hx)⟩, HR, SlO.nil _ _ _, HIM, H1.out⟩
  case round =>
    clear H1 HR HX0 HIM
    obtain ⟨x, out, bs, es, ck, rfl, HX, HND, HWK, HO, HIM, hr⟩ := hrel
    obtain ⟨A8, c8, hv, -, -⟩ := HO.out.slice
    subst hv
    have hfew := few HND.out.1 HND.out.2
    obtain ⟨z, hz⟩ : ∃ z, out.length = z := ⟨_, rfl⟩
    have HZ := Lib.hid hz
    rw [hz] at hfew
    have hO2 : IntsOwn true (.slice A8 z c8) out bs := by have := HO.out; rw [hz] at this; exact this
    have HO2 := Lib.hid hO2
    have hof := fun w => ofS_spec x HX.out w
    have hk := HWK.out
    rw [hz, show c.S + 1 - z = (c.S - z) + 1 by omega] at hk
    unfold chain at hk
    rw [hz]
    have HRW := Lib.hid hr
    have hrb := (hr.skip.perm List.perm_middle)
    obtain ⟨y0, y1, y2, y3, y4, y5, y6⟩ := box7 hrb
    clear hO2 HWK hz
    cases hs : shelfOf x with
    | none =>
      rw [hs] at hof hk
      have HOF := Lib.hid hof
      have HK2 := Lib.hid hk
      clear hof hk hs hrb
      go_wp2_with (go_at_call 66; refine (HOF.out _).mono ?_; rintro e w5 ⟨⟨v5, rfl⟩, rfl⟩)
      go_ret2
      rw [← HK2.out]
      exact ⟨rfl, hr.skip.dropL.skip⟩
    | some s =>
      rw [hs] at hof hk
      simp only at hk
      have HOF := Lib.hid hof
      obtain ⟨s0, s1⟩ := ofS_ge hs
      clear hof hs
      by_cases hS : (c.S : Int) ≤ s
      · rw [if_pos (.inl hS)] at hk
        have HK2 := Lib.hid hk
        clear hk hrb
        go_wp2_with (go_at_call 66; refine (HOF.out _).mono ?_; rintro e w5 ⟨rfl, rfl⟩)
        go_ret2
        rw [← HK2.out]
        exact ⟨rfl, hr.skip.dropL.skip⟩
      · have hSn : ¬ (c.S : Int) ≤ s := hS
        have hwf : (Lit.int .i64 s).wf = true := by simp [Lit.wf, IntKind.min, IntKind.max, IntKind.signed, IntKind.bits]; omega
        have HWF := Lib.hid hwf
        have hgm := hr.get List.mem_cons_self
        clear hwf
        by_cases hin : s ∈ out
        · rw [if_pos (.inr hin)] at hk
          have HK2 := Lib.hid hk
          have hg1 := seen_yes hin
          clear hk hrb
          go_wp2_with (first | (go_at_call 66; refine (HOF.out _).mono ?_; rintro e w5 ⟨rfl, rfl⟩) | (at_lookup; refine wpList_mapAt rfl _ _ rfl rfl rfl HIM.out hgm HWF.out ?_; rw [hg1]))
          go_ret2
          rw [← HK2.out]
          exact ⟨rfl, hr.skip.dropL.skip⟩
        · rw [if_neg (by intro hh; exact hh.elim hS hin)] at hk
          have hg1 := seen_no hin
          by_cases hm1 : s = -1
          · rw [if_pos hm1] at hk
            subst hm1
            have HK2 := Lib.hid hk
            clear hk hrb
            go_wp2_with (first | (go_at_call 66; refine (HOF.out _).mono ?_; rintro e w5 ⟨rfl, rfl⟩) | (at_lookup; refine wpList_mapAt rfl _ _ rfl rfl rfl HIM.out hgm HWF.out ?_; rw [hg1]))
            go_ret2
            rw [← HK2.out]
            exact ⟨_, bs, rfl, HO2, hr.skip.drop1⟩
          · rw [if_neg hm1] at hk
            have hsb : (s == -1) = false := beq_eq_false_iff_ne.2 hm1
            obtain ⟨j, rfl⟩ : ∃ j : Nat, s = j := ⟨s.toNat, by omega⟩
            have hjS : j < c.S := by omega
            have hji : 0 ≤ (j : Int) ∧ (j : Int) < (c.S : Int) := by omega
            have HJ := Lib.hid hji
            have hN := HW.out.n
            unfold Ch.words at hN
            have hpN : 4 * c.C + 4 + 4 * j + 2 < N := by omega
            obtain ⟨p, hp⟩ : ∃ p : Nat, 4 * c.C + 4 + 4 * j + 2 = p := ⟨_, rfl⟩
            have hpi : 4 * (c.C : Int) + 4 + 4 * (j : Int) + 2 = (p : Int) := by omega
            have HPI := Lib.hid hpi
            rw [hp] at hpN
            have hp0 : (0 : Int) ≤ (p : Int) := by omega
            have hp1 : (p : Int) < (N : Int) := by omega
            obtain ⟨x', hx'⟩ : ∃ x', g[p]? = some x' := ⟨_, List.getElem?_eq_getElem (by rw [HW.out.len]; exact hpN)⟩
            have hna : nextAt c g (j : Int) = x' := by
              unfold nextAt at_
              rw [Int.toNat_natCast, hp, List.getD_eq_getElem?_getD, hx']
              rfl
            rw [hna] at hk
            have HX' : Hid (x' < 18446744073709551616) := HW.out.w64 x' (List.mem_of_getElem? hx')
            have HXP := Lib.hid hx'
            have hlt := few_lt HND.out.1 HND.out.2 hji.1 hji.2 hin
            rw [HZ.out] at hlt
            have HND2 : Hid ((out ++ [(j : Int)]).Nodup ∧ ∀ y ∈ out ++ [(j : Int)], 0 ≤ y ∧ y < c.S) := by
              refine ⟨List.nodup_append.2 ⟨HND.out.1, by simp, fun a ha b hb he => ?_⟩, fun y hy => ?_⟩
              · simp at hb
                subst hb
                subst he
                exact hin ha
              · rcases List.mem_append.1 hy with hy | hy
                · exact HND.out.2 y hy
                · simp at hy
                  subst hy
                  exact hji
            have HK2 : Hid (chain shelfOf (nextAt c g) c.S (c.S + 1 - (out ++ [(j : Int)]).length) (out ++ [(j : Int)]) x' = R) := by
              show _ = _
              rw [List.length_append, HZ.out, List.length_singleton, show c.S + 1 - (z + 1) = c.S - z by omega]
              exact hk
            have HLEN : Hid (out.length + [(j : Int)].length ≤ 60000) := by
              show _ ≤ _
              rw [HZ.out]
              simp
              omega
            have HLM : Hid (out.length < maxLen) := by
              show _ < _
              rw [HZ.out]
              unfold maxLen
              omega
            clear hk hN hp hpi hx' hna hrb
            go_wp2_with (first | (go_at_call 66; refine (HOF.out _).mono ?_; rintro e w5 ⟨rfl, rfl⟩) | (at_lookup; refine wpList_mapAt rfl _ _ rfl rfl rfl HIM.out hgm HWF.out ?_; rw [hg1]) |
              (at_mapUpdate; refine wpList_mapPut rfl _ _ _ rfl rfl rfl rfl HIM.out HRW.out HLM.out HWF.out ?_; intro es' ck' w' k1 k2; rw [seen_put] at k1; have K1 := Lib.hid k1; have H2 := Lib.hid ((k2.perm List.perm_middle.symm).alloc (.cells #[.int .i64 (j : Int)] 3)); have HSRC := Lib.hid (src_one w' (j : Int)); clear k1 k2 y0 y1 y2 y3 y4 y5 y6 hgm) |
              (at_builtin; refine wpList_app_ints rfl _ _ rfl rfl rfl HO2.out H2.out HSRC.out HLEN.out ?_; intro v' w' bs' q1 q2 q3; have Q1 := Lib.hid q1; have Q2 := Lib.hid q2; obtain ⟨y0, y1, y2, y3, y4, y5, y6⟩ := box7 q2.dropL.skip; have cx := HW.out.rd _ q2.dropL.skip.skip p x' HXP.out; clear q1 q2 q3))
            go_region_held3 (fun w' => w'.cell? ⟨b, 0, none⟩ = some (.slice (some ⟨B, o, none⟩) N k) ∧ w'.cell? ⟨b, 1, none⟩ = some (.int .i64 c.C) ∧ w'.cell? ⟨b, 2, none⟩ = some (.int .i64 c.S) ∧ w'.cell? ⟨b, 3, none⟩ = some (.int .i64 c.O) ∧ w'.cell? ⟨b, 4, none⟩ = some (.int .i64 d) ∧ w'.cell? ⟨b, 5, none⟩ = some (.int .i64 e) ∧ w'.cell? ⟨b, 6, none⟩ = some (.int .u64 c.key) ∧ w'.cell? ⟨B, o + p, none⟩ = some (.int .u64 (x' : Int))) (first | (refine ⟨?_, ?_, ?_, ?_, ?_, ?_, ?_, ?_⟩ <;> assumption) | go_keep)
              (first | (go_at_call 19; refine (Apart.next_ok HC.out.ok HJ.out Q2.out.drew).mono ?_; rintro r w6 ⟨rfl, h6⟩; rw [HPI.out]; obtain ⟨y0, y1, y2, y3, y4, y5, y6⟩ := box7 h6.dropL.skip; have cx := HW.out.rd _ h6.dropL.skip.skip p x' HXP.out))
            go_wp2_with fail
            obtain ⟨A9, c9, hv9, -, -⟩ := Q1.out.slice
            rw [List.length_append, HZ.out, List.length_singleton] at hv9
            refine ⟨⟨x', _, bs', es', ck', rfl, HX', HND2, HK2, Q1, ?_, ?_⟩, ?_⟩
            · show IM es' (out ++ [(j : Int)]).length _
              rw [List.length_append, List.length_singleton]
              exact K1.out
            · exact h6.perm List.perm_middle
            · rw [hv9]
              simp [slLen]
              omega
end
end Go.Proofs.Ytigakendeghoaaa.See

/-
  Contracts: the document's parts (wainscotref17). No condition.
-/
namespace Go.Proofs.Ytigakendeghoaaa.See
open Go.RowKit
attribute [local go_sem ↓] Go.wp_at_zero Go.wp_at_succ
theorem rpart_ok (s n : Int) (h : partOk s n) (w : World) : Calls Try.prog 122 #[.int .i64 s, .int .i64 n] w fun e w' => e = .returned (.tuple #[.int .u64 (partW s n), .int .i64 0]) ∧ w = w' := by
  obtain ⟨h0, h1, h2, h3⟩ := h
  have hb : (s == -1) = false := beq_eq_false_iff_ne.2 (by omega)
  have hw : s + 1 + 64 * n = ((partW s n : Nat) : Int) := by unfold partW; omega
  have HW := Lib.hid hw
  have hwr : 0 ≤ s + 1 + 64 * n := by omega
  clear hw
  go_enter Try.func122, Try.ntmps122
  go_wp2_with fail
  go_ret2
  exact ⟨by rw [← HW.out]; rfl, rfl⟩
theorem rpart_none (w : World) : Calls Try.prog 122 #[.int .i64 (-1), .int .i64 0] w fun e w' => e = .returned (.tuple #[.int .u64 0, .int .i64 0]) ∧ w = w' := by
  go_enter Try.func122, Try.ntmps122
  go_wp2_with fail
  go_ret2
  exact ⟨rfl, rfl⟩
theorem rpart_bad (s n : Int) (h : ¬ partOk s n) (hn : ¬ (s = -1 ∧ n = 0)) (w : World) : Calls Try.prog 122 #[.int .i64 s, .int .i64 n] w fun e w' => e = .returned (.tuple #[.int .u64 0, .int .i64 2]) ∧ w = w' := by
  unfold partOk at h
  by_cases hs : s = -1
  · subst hs
    have hb : (n == 0) = false := beq_eq_false_iff_ne.2 (by omega)
    go_enter Try.func122, Try.ntmps122
    go_wp2_with fail
    go_ret2
    exact ⟨rfl, rfl⟩
  · have hb : (s == -1) = false := beq_eq_false_iff_ne.2 hs
    rcases (show s < 0 ∨ (0 ≤ s ∧ 32 ≤ s) ∨ (0 ≤ s ∧ s < 32 ∧ n < 1) ∨ (0 ≤ s ∧ s < 32 ∧ ¬ n < 1 ∧ 63 < n) by omega) with g | ⟨g, g1⟩ | ⟨g, g1, g2⟩ | ⟨g, g1, g2, g3⟩
    all_goals
      go_enter Try.func122, Try.ntmps122
      go_wp2_with fail
      go_ret2
      exact ⟨rfl, rfl⟩
theorem partOf_nat {x : Nat} (h0 : x ≠ 0) (s n : Int) (hs : s = ((x % 64 : Nat) : Int) - 1) (hn : n = ((x / 64 % 64 : Nat) : Int)) :
    partOf x = if partOk s n ∧ partW s n = x then some (s, n) else none := by
  subst hs hn
  unfold partOf partOk partW
  rw [if_neg h0]
  by_cases h1 : 64 ≤ x ∧ x < 4096 ∧ 1 ≤ x % 64 ∧ x % 64 ≤ 32
  · rw [if_pos h1, if_pos (by omega)]
    have h2 : x / 64 % 64 = x / 64 := by omega
    rw [h2]
  · rw [if_neg h1, if_neg (by omega)]
set_option maxRecDepth 100000 in
set_option maxHeartbeats 2000000 in
theorem rpartOf_spec (x : Nat) (hx : x < 18446744073709551616) (w : World) : Calls Try.prog 107 #[.int .u64 x] w fun e w' => e = .returned (partV x) ∧ w = w' := by
  obtain ⟨V, hV⟩ : ∃ V, partV x = V := ⟨_, rfl⟩
  by_cases h0 : x = 0
  · subst h0
    have hv : V = .tuple #[.int .i64 (-1), .int .i64 0, .bool true] := by rw [← hV]; rfl
    rw [hV, hv]
    go_enter Try.func107, Try.ntmps107
    go_wp2_with fail
    go_ret3
    exact ⟨rfl, rfl⟩
  · obtain ⟨r, hr⟩ : ∃ r : Nat, x % 64 = r := ⟨_, rfl⟩
    obtain ⟨q, hq⟩ : ∃ q : Nat, x / 64 % 64 = q := ⟨_, rfl⟩
    have hp := partOf_nat h0 ((r : Int) - 1) (q : Int) (by rw [hr]) (by rw [hq])
    have hri : (x : Int) % 64 = (r : Int) := by omega
    obtain ⟨Q, hQ⟩ : ∃ Q : Nat, x / 64 = Q := ⟨_, rfl⟩
    have hd : IntKind.u64.wrap ((x : Int) / 64) = (Q : Int) := by
      rw [IntKind.wrap_u64]
      omega
    have hqi : (Q : Int) % 64 = (q : Int) := by omega
    have hrb : r < 64 := by omega
    have hqb : q < 64 := by omega
    have hb0 : ((x : Int) == 0) = false := beq_eq_false_iff_ne.2 (by omega)
    rw [hV]
    unfold partV at hV
    rw [hp] at hV
    clear hp hr hq hx hQ
    by_cases hok : partOk ((r : Int) - 1) (q : Int)
    · by_cases he : partW ((r : Int) - 1) (q : Int) = x
      · rw [if_pos ⟨hok, he⟩] at hV
        have hb : (((partW ((r : Int) - 1) (q : Int) : Nat) : Int) == (x : Int)) = true := by simp [he]
        have HV := Lib.hid hV
        have HOK := Lib.hid hok
        clear hV hok he
        go_enter Try.func107, Try.ntmps107
        go_wp2_with (go_at_call 122; refine (rpart_ok ((r : Int) - 1) (q : Int) HOK.out _).mono ?_; rintro e w' ⟨rfl, rfl⟩)
        go_ret3
        exact ⟨by rw [← HV.out]; rfl, rfl⟩
      · rw [if_neg (by intro hh; exact he hh.2)] at hV
        have hb : (((partW ((r : Int) - 1) (q : Int) : Nat) : Int) == (x : Int)) = false := by simp; omega
        have HV := Lib.hid hV
        have HOK := Lib.hid hok
        clear hV hok he
        go_enter Try.func107, Try.ntmps107
        go_wp2_with (go_at_call 122; refine (rpart_ok ((r : Int) - 1) (q : Int) HOK.out _).mono ?_; rintro e w' ⟨rfl, rfl⟩)
        go_ret3
        exact ⟨by rw [← HV.out]; rfl, rfl⟩
    · rw [if_neg (by intro hh; exact hok hh.1)] at hV
      by_cases hm : (r : Int) - 1 = -1 ∧ (q : Int) = 0
      · have hr0 : r = 0 := by omega
        have hq0 : q = 0 := by omega
        subst hr0 hq0
        have hb : ((0 : Int) == (x : Int)) = false := by simp; omega
        have HV := Lib.hid hV
        clear hV hok hm
        go_enter Try.func107, Try.ntmps107
        go_wp2_with (go_at_call 122; refine (rpart_none _).mono ?_; rintro e w' ⟨rfl, rfl⟩)
        go_ret3
        exact ⟨by rw [← HV.out]; rfl, rfl⟩
      · have HV := Lib.hid hV
        have HOK := Lib.hid hok
        have HM := Lib.hid hm
        clear hV hok hm
        go_enter Try.func107, Try.ntmps107
        go_wp2_with (go_at_call 122; refine (rpart_bad ((r : Int) - 1) (q : Int) HOK.out HM.out _).mono ?_; rintro e w' ⟨rfl, rfl⟩)
        go_ret3
        exact ⟨by rw [← HV.out]; rfl, rfl⟩
end Go.Proofs.Ytigakendeghoaaa.See

/-
  Contracts: the document's has, parts (wainscotref21). No condition.
-/
namespace Go.Proofs.Ytigakendeghoaaa.See
open Go.RowKit
open Apart (chV chB ChAt box6 box6')
open chartPlaces (Ok)
attribute [local go_sem ↓] Go.wp_at_zero Go.wp_at_succ
theorem has_spec {w : World} {v : Value} {l : List Int} (h : IntsSrc w v l) (hl : l.length ≤ 60000) (n : Int) :
    Calls Try.prog 87 #[v, .int .i64 n] w fun e w' => e = .returned (.bool (decide (n ∈ l))) ∧ w = w' := by
  have f1 : ∃ A c, v = .slice A l.length c := by
    rcases h.2 with ⟨rfl, h0⟩ | ⟨a, c, rfl, _⟩
    · exact ⟨none, 0, by rw [h0]⟩
    · exact ⟨_, c, rfl⟩
  obtain ⟨A1, c1, rfl⟩ := f1
  have H := Lib.hid h
  clear h
  go_enter Try.func87, Try.ntmps87
  go_wp2_with fail
  go_loopw [5] (fun k wr => ∃ i : Nat, i ≤ l.length ∧ k = .int .i64 i ∧ Hid (∀ j, j < i → l[j]? ≠ some n) ∧ w = wr) (fun k _ => l.length - (intOf k).toNat)
  case atStart => exact ⟨0, Nat.zero_le _, rfl, fun j hj => by omega, rfl⟩
  case round =>
    obtain ⟨i, hi, rfl, HT, rfl⟩ := hrel
    by_cases hlt : i < l.length
    · rcases H.out.2 with ⟨_, h0⟩ | ⟨a1, k1, he1, hc1⟩
      · omega
      cases he1
      obtain ⟨x, hx⟩ : ∃ x, l[i]? = some x := ⟨_, List.getElem?_eq_getElem hlt⟩
      have cx := hc1 i _ (ints_get hx)
      have i0 : (0 : Int) ≤ (i : Int) := by omega
      have i1 : (i : Int) < (l.length : Int) := by omega
      have HX := Lib.hid hx
      clear hx hc1
      by_cases hxy : x = n
      · have hxb : (x == n) = true := by simpa using hxy
        have HXY := Lib.hid hxy
        clear hxy
        go_wp2_with fail
        go_ret
        refine ⟨?_, rfl⟩
        have : n ∈ l := by rw [← HXY.out]; exact List.mem_of_getElem? HX.out
        rw [decide_eq_true this]; rfl
      · have hxb : (x == n) = false := by simpa using hxy
        have HXY := Lib.hid hxy
        clear hxy
        go_wp2_with fail
        refine ⟨⟨i + 1, by omega, by go_num, fun j hj => ?_, trivial⟩, by simp [intOf]; omega⟩
        by_cases hji : j = i
        · subst hji
          rw [HX.out]
          intro he
          exact HXY.out (Option.some.inj he)
        · exact HT.out j (by omega)
    · obtain rfl : i = l.length := by omega
      go_wp2_with fail
      go_ret
      refine ⟨?_, rfl⟩
      have : n ∉ l := fun hm => by
        obtain ⟨j, hj⟩ := List.mem_iff_getElem?.1 hm
        exact HT.out j (List.getElem?_eq_some_iff.1 hj).1 hj
      rw [decide_eq_false this]; rfl
section
variable {W w : World} {m : List (Nat × Obj)} {B o N k : Nat} {g : List Nat} {c : Ch} {d e : Int}
set_option maxRecDepth 100000 in
set_option maxHeartbeats 4000000 in
theorem r1parts_spec (h : Own W m w) (hc : COk c d e) (hw : WOk W m B o N k g c) (x0 : Nat) (hx0 : x0 < 18446744073709551616) :
    Calls Try.prog 86 #[.slice (some ⟨B, o, none⟩) N k, cV c d e, .int .u64 x0] w (ListPost W m (chain ofP (nextAt c g) c.S (c.S + 1) [] x0)) := by
  obtain ⟨n1, n2, n3, n4, n5, n6⟩ := hc.nums
  have h1 := h.new (.cells #[.int .i64 c.C, .int .i64 c.S, .int .i64 c.O, .int .i64 d, .int .i64 e, .int .u64 c.key] 24)
  obtain ⟨b, hb⟩ : ∃ b, w.heap.size = b := ⟨_, rfl⟩
  rw [hb] at h1
  have h1 : Own W (chB b c.C c.S c.O d e c.key :: m) _ := h1
  obtain ⟨R, hR⟩ : ∃ R, chain ofP (nextAt c g) c.S (c.S + 1) [] x0 = R := ⟨_, rfl⟩
  have HR := Lib.hid hR
  have HC := Lib.hid hc
  have HW := Lib.hid hw
  have HX0 := Lib.hid hx0
  rw [hR]
  clear hR hc hx0 hw
  unfold cV chV
  go_enter Try.func86, Try.ntmps86
  go_wp2_with fail
  obtain ⟨wa, hwa⟩ : ∃ wa, w.alloc (.cells #[.int .i64 c.C, .int .i64 c.S, .int .i64 c.O, .int .i64 d, .int .i64 e, .int .u64 c.key] 24) = wa := ⟨_, rfl⟩
  rw [hwa] at h1 ⊢
  have H1 := Lib.hid h1
  clear h1 hwa h hb
  go_loopw [2, 8] (fun xv ov wr => ∃ (x : Nat) (out : List Int) (bs : List (Nat × Obj)), xv = .int .u64 x ∧ Hid (x < 18446744073709551616) ∧ Hid (out.Nodup ∧ ∀ y ∈ out, 0 ≤ y ∧ y < c.S) ∧ Hid (chain ofP (nextAt c g) c.S (c.S + 1 - out.length) out x = R) ∧ Hid (IntsOwn true ov out bs) ∧ Own W (bs ++ (chB b c.C c.S c.O d e c.key :: m)) wr) (fun _ ov _ => 33 - slLen ov)
  case atStart => exact ⟨x0, [], [], rfl, HX0, ⟨List.nodup_nil, fun x hx => (by simp at hx)⟩, HR, SlO.nil _ _ _, H1.out⟩
  case round =>
    clear H1 HR HX0
    obtain ⟨x, out, bs, rfl, HX, HND, HWK, HO, hr⟩ := hrel
    obtain ⟨A8, c8, hv, -, -⟩ := HO.out.slice
    subst hv
    have hfew := few HND.out.1 HND.out.2
    obtain ⟨z, hz⟩ : ∃ z, out.length = z := ⟨_, rfl⟩
    have HZ := Lib.hid hz
    rw [hz] at hfew
    have hO2 : IntsOwn true (.slice A8 z c8) out bs := by have := HO.out; rw [hz] at this; exact this
    have HO2 := Lib.hid hO2
    have hof := fun w => rpartOf_spec x HX.out w
    unfold partV at hof
    have hk := HWK.out
    rw [hz, show c.S + 1 - z = (c.S - z) + 1 by omega] at hk
    unfold chain at hk
    rw [hz]
    have HRW := Lib.hid hr
    have hrb := (hr.perm List.perm_middle)
    obtain ⟨y0, y1, y2, y3, y4, y5⟩ := box6 hrb
    have hhas := fun s => has_spec (hO2.src hr) (by rw [hz]; omega) s
    clear hO2 HWK hz
    unfold ofP at hk
    cases hs : partOf x with
    | none =>
      rw [hs] at hof hk
      have HOF := Lib.hid hof
      have HK2 := Lib.hid hk
      clear hof hk hs hrb hhas
      go_wp2_with (go_at_call 107; refine (HOF.out _).mono ?_; rintro e w5 ⟨rfl, rfl⟩)
      go_ret2
      rw [← HK2.out]
      exact ⟨rfl, hr.dropL.skip⟩
    | some q =>
      obtain ⟨s, n⟩ := q
      rw [hs] at hof hk
      simp only [Option.map_some] at hk
      have HOF := Lib.hid hof
      obtain ⟨s0, s1⟩ := ofP_ge (w := x) (s := s) (by unfold ofP; rw [hs]; rfl)
      clear hof hs
      by_cases hS : (c.S : Int) ≤ s
      · rw [if_pos (.inl hS)] at hk
        have HK2 := Lib.hid hk
        clear hk hrb hhas
        go_wp2_with (go_at_call 107; refine (HOF.out _).mono ?_; rintro e w5 ⟨rfl, rfl⟩)
        go_ret2
        rw [← HK2.out]
        exact ⟨rfl, hr.dropL.skip⟩
      · have hSn : ¬ (c.S : Int) ≤ s := hS
        have hhas := hhas s
        by_cases hin : s ∈ out
        · rw [if_pos (.inr hin)] at hk
          rw [decide_eq_true hin] at hhas
          have HK2 := Lib.hid hk
          have HH := Lib.hid hhas
          clear hk hrb hhas
          go_wp2_with (first | (go_at_call 107; refine (HOF.out _).mono ?_; rintro e w5 ⟨rfl, rfl⟩) | (go_at_call 87; refine HH.out.mono ?_; rintro e w5 ⟨rfl, rfl⟩))
          go_ret2
          rw [← HK2.out]
          exact ⟨rfl, hr.dropL.skip⟩
        · rw [if_neg (by intro hh; exact hh.elim hS hin)] at hk
          rw [decide_eq_false hin] at hhas
          have HH := Lib.hid hhas
          clear hhas
          by_cases hm1 : s = -1
          · rw [if_pos hm1] at hk
            subst hm1
            have HK2 := Lib.hid hk
            clear hk hrb
            go_wp2_with (first | (go_at_call 107; refine (HOF.out _).mono ?_; rintro e w5 ⟨rfl, rfl⟩) | (go_at_call 87; refine HH.out.mono ?_; rintro e w5 ⟨rfl, rfl⟩))
            go_ret2
            rw [← HK2.out]
            exact ⟨_, bs, rfl, HO2, hr.drop1⟩
          · rw [if_neg hm1] at hk
            obtain ⟨j, rfl⟩ : ∃ j : Nat, s = j := ⟨s.toNat, by omega⟩
            have hjS : j < c.S := by omega
            have hji : 0 ≤ (j : Int) ∧ (j : Int) < (c.S : Int) := by omega
            have HJ := Lib.hid hji
            have hN := HW.out.n
            unfold Ch.words at hN
            have hpN : 4 * c.C + 4 + 4 * j + 2 < N := by omega
            obtain ⟨p, hp⟩ : ∃ p : Nat, 4 * c.C + 4 + 4 * j + 2 = p := ⟨_, rfl⟩
            have hpi : 4 * (c.C : Int) + 4 + 4 * (j : Int) + 2 = (p : Int) := by omega
            have HPI := Lib.hid hpi
            rw [hp] at hpN
            have hp0 : (0 : Int) ≤ (p : Int) := by omega
            have hp1 : (p : Int) < (N : Int) := by omega
            obtain ⟨x', hx'⟩ : ∃ x', g[p]? = some x' := ⟨_, List.getElem?_eq_getElem (by rw [HW.out.len]; exact hpN)⟩
            have hna : nextAt c g (j : Int) = x' := by
              unfold nextAt at_
              rw [Int.toNat_natCast, hp, List.getD_eq_getElem?_getD, hx']
              rfl
            rw [hna] at hk
            have HX' : Hid (x' < 18446744073709551616) := HW.out.w64 x' (List.mem_of_getElem? hx')
            have HXP := Lib.hid hx'
            have hlt := few_lt HND.out.1 HND.out.2 hji.1 hji.2 hin
            rw [HZ.out] at hlt
            have HND2 : Hid ((out ++ [(j : Int)]).Nodup ∧ ∀ y ∈ out ++ [(j : Int)], 0 ≤ y ∧ y < c.S) := by
              refine ⟨List.nodup_append.2 ⟨HND.out.1, by simp, fun a ha b hb he => ?_⟩, fun y hy => ?_⟩
              · simp at hb
                subst hb
                subst he
                exact hin ha
              · rcases List.mem_append.1 hy with hy | hy
                · exact HND.out.2 y hy
                · simp at hy
                  subst hy
                  exact hji
            have HK2 : Hid (chain ofP (nextAt c g) c.S (c.S + 1 - (out ++ [(j : Int)]).length) (out ++ [(j : Int)]) x' = R) := by
              show _ = _
              rw [List.length_append, HZ.out, List.length_singleton, show c.S + 1 - (z + 1) = c.S - z by omega]
              exact hk
            have HLEN : Hid (out.length + [(j : Int)].length ≤ 60000) := by
              show _ ≤ _
              rw [HZ.out]
              simp
              omega
            have HSRC := fun w' => Lib.hid (src_one w' (j : Int))
            clear hk hN hp hpi hx' hna hrb
            go_wp2_with (first | (go_at_call 107; refine (HOF.out _).mono ?_; rintro e w5 ⟨rfl, rfl⟩) | (go_at_call 87; refine HH.out.mono ?_; rintro e w5 ⟨rfl, rfl⟩) |
              (at_builtin; refine wpList_app_ints rfl _ _ rfl rfl rfl HO2.out (HRW.out.alloc (.cells #[.int .i64 (j : Int)] 3)) (HSRC _).out HLEN.out ?_; intro v' w' bs' q1 q2 q3; have Q1 := Lib.hid q1; have Q2 := Lib.hid q2; clear y0 y1 y2 y3 y4 y5; obtain ⟨y0, y1, y2, y3, y4, y5⟩ := box6' q2; clear q1 q2 q3) |
              (go_at_call 29; refine (Apart.rnext_ok HC.out.ok HJ.out Q2.out).mono ?_; rintro r w6 ⟨rfl, h6⟩; rw [HPI.out]; have cx := HW.out.rd _ h6.dropL.skip p x' HXP.out))
            obtain ⟨A9, c9, hv9, -, -⟩ := Q1.out.slice
            rw [List.length_append, HZ.out, List.length_singleton] at hv9
            refine ⟨⟨x', _, bs', rfl, HX', HND2, HK2, Q1, h6⟩, ?_⟩
            rw [hv9]
            simp [slLen]
            omega
end
end Go.Proofs.Ytigakendeghoaaa.See

/-
  Contracts: the document's shelf (wainscotref21). No condition.
-/
namespace Go.Proofs.Ytigakendeghoaaa.See
open Go.RowKit
open Apart (chV chB ChAt box6 box6')
open chartPlaces (Ok)
attribute [local go_sem ↓] Go.wp_at_zero Go.wp_at_succ
section
variable {W w : World} {m : List (Nat × Obj)} {B o N k : Nat} {g : List Nat} {c : Ch} {d e : Int}
theorem shelfOf_none {x S : Nat} (h : S ≤ 32) (hx : S < x) : shelfOf x = none ∨ ∃ s, shelfOf x = some s ∧ (S : Int) ≤ s := by
  unfold shelfOf
  by_cases hb : x ≤ 32
  · rw [if_pos hb]
    exact .inr ⟨_, rfl, by omega⟩
  · rw [if_neg hb]
    exact .inl rfl
set_option maxRecDepth 100000 in
set_option maxHeartbeats 4000000 in
theorem r1shelf_spec (h : Own W m w) (hc : COk c d e) (hw : WOk W m B o N k g c) :
    Calls Try.prog 69 #[.slice (some ⟨B, o, none⟩) N k, cV c d e] w (ListPost W m (shelfP c g)) := by
  obtain ⟨n1, n2, n3, n4, n5, n6⟩ := hc.nums
  have h1 := h.new (.cells #[.int .i64 c.C, .int .i64 c.S, .int .i64 c.O, .int .i64 d, .int .i64 e, .int .u64 c.key] 24)
  obtain ⟨b, hb⟩ : ∃ b, w.heap.size = b := ⟨_, rfl⟩
  rw [hb] at h1
  have h1 : Own W (chB b c.C c.S c.O d e c.key :: m) _ := h1
  obtain ⟨R, hR⟩ : ∃ R, shelfP c g = R := ⟨_, rfl⟩
  rw [hR]
  unfold shelfP at hR
  have hN := hw.n
  unfold Ch.words at hN
  have hp1 : 4 * c.C + 1 < N := by omega
  obtain ⟨x0, hx0'⟩ : ∃ x', g[4 * c.C + 1]? = some x' := ⟨_, List.getElem?_eq_getElem (by rw [hw.len]; exact hp1)⟩
  have hna : at_ g (4 * c.C + 1) = x0 := by
    unfold at_
    rw [List.getD_eq_getElem?_getD, hx0']
    rfl
  rw [hna] at hR
  have HR := Lib.hid hR
  have HC := Lib.hid hc
  have HW := Lib.hid hw
  have HX0 : Hid (x0 < 18446744073709551616) := hw.w64 x0 (List.mem_of_getElem? hx0')
  obtain ⟨p, hp⟩ : ∃ p : Nat, 4 * c.C + 1 = p := ⟨_, rfl⟩
  have hpi : 4 * (c.C : Int) + 1 = (p : Int) := by omega
  have HPI := Lib.hid hpi
  rw [hp] at hp1 hx0'
  have HXP := Lib.hid hx0'
  have hq0 : (0 : Int) ≤ (p : Int) := by omega
  have hq1 : (p : Int) < (N : Int) := by omega
  clear hR hc hw hN hna hp hpi hx0'
  unfold cV chV
  go_enter Try.func69, Try.ntmps69
  go_wp2_with (go_at_call 26; refine (Apart.rshelf_ok HC.out.ok h1).mono ?_; rintro r w2 ⟨rfl, h2⟩; rw [HPI.out]; have cx := HW.out.rd _ h2.skip p x0 HXP.out)
  have H1 := Lib.hid h2
  clear h1 h2 h hb cx hq0 hq1 hp1
  go_loopw [7, 6] (fun xv ov wr => ∃ (x : Nat) (out : List Int) (bs : List (Nat × Obj)), xv = .int .u64 x ∧ Hid (x < 18446744073709551616) ∧ Hid (out.Nodup ∧ ∀ y ∈ out, 0 ≤ y ∧ y < c.S) ∧ Hid (chain shelfOf (nextAt c g) c.S (c.S + 1 - out.length) out x = R) ∧ Hid (IntsOwn true ov out bs) ∧ Own W (bs ++ (chB b c.C c.S c.O d e c.key :: m)) wr) (fun _ ov _ => 33 - slLen ov)
  case atStart => exact ⟨x0, [], [], rfl, HX0, ⟨List.nodup_nil, fun x hx => (by simp at hx)⟩, HR, SlO.nil _ _ _, H1.out⟩
  case round =>
    clear H1 HR HX0 HXP HPI
    obtain ⟨x, out, bs, rfl, HX, HND, HWK, HO, hr⟩ := hrel
    obtain ⟨A8, c8, hv, -, -⟩ := HO.out.slice
    subst hv
    have hfew := few HND.out.1 HND.out.2
    obtain ⟨z, hz⟩ : ∃ z, out.length = z := ⟨_, rfl⟩
    have HZ := Lib.hid hz
    rw [hz] at hfew
    have hO2 : IntsOwn true (.slice A8 z c8) out bs := by have := HO.out; rw [hz] at this; exact this
    have HO2 := Lib.hid hO2
    have hk := HWK.out
    rw [hz, show c.S + 1 - z = (c.S - z) + 1 by omega] at hk
    unfold chain at hk
    rw [hz]
    have HRW := Lib.hid hr
    have hrb := (hr.perm List.perm_middle)
    obtain ⟨y0, y1, y2, y3, y4, y5⟩ := box6 hrb
    have hhas := fun s => has_spec (hO2.src hr) (by rw [hz]; omega) s
    clear hO2 HWK hz
    by_cases hx0 : x = 0
    · subst hx0
      have hk2 : some out = R := by
        have : shelfOf 0 = some (-1) := rfl
        rw [this] at hk
        simp only at hk
        rw [if_neg (by
          rintro (h1 | h1)
          · omega
          · have := HND.out.2 _ h1; omega)] at hk
        simpa using hk
      have HK2 := Lib.hid hk2
      clear hk hk2 hrb hhas
      go_wp2_with fail
      go_ret2
      rw [← HK2.out]
      exact ⟨_, bs, rfl, HO2, hr.drop1⟩
    · have hx0b : ((x : Int) != 0) = true := by simp; omega
      by_cases hS : c.S < x
      · have hk2 : none = R := by
          rcases shelfOf_none n4 hS with h1 | ⟨s, h1, h2⟩
          · rw [h1] at hk; exact hk
          · rw [h1] at hk
            simp only at hk
            rw [if_pos (.inl h2)] at hk
            exact hk
        have HK2 := Lib.hid hk2
        have hSi : decide ((c.S : Int) < (x : Int)) = true := decide_eq_true (by omega)
        clear hk hk2 hrb hhas
        go_wp2_with fail
        go_ret2
        rw [← HK2.out]
        exact ⟨rfl, hr.dropL.skip⟩
      · obtain ⟨j, hj⟩ : ∃ j : Nat, x = j + 1 := ⟨x - 1, by omega⟩
        have hso : shelfOf x = some (j : Int) := by
          unfold shelfOf
          rw [if_pos (by omega)]
          simp
          omega
        rw [hso] at hk
        simp only at hk
        have hjS : j < c.S := by omega
        have hSi : decide ((c.S : Int) < (x : Int)) = false := decide_eq_false (by omega)
        have hxi : (x : Int) - 1 = (j : Int) := by omega
        have hx32 : x ≤ 32 := by omega
        have hx1 : 1 ≤ x := by omega
        have hjb : j < 32 := by omega
        have hhas := hhas (j : Int)
        clear hj
        by_cases hin : (j : Int) ∈ out
        · rw [if_pos (.inr hin)] at hk
          rw [decide_eq_true hin] at hhas
          have HK2 := Lib.hid hk
          have HH := Lib.hid hhas
          clear hk hrb hhas hso
          go_wp2_with (go_at_call 87; refine HH.out.mono ?_; rintro e w5 ⟨rfl, rfl⟩)
          go_ret2
          rw [← HK2.out]
          exact ⟨rfl, hr.dropL.skip⟩
        · rw [if_neg (by intro hh; rcases hh with hh | hh; · omega
                         · exact hin hh), if_neg (by omega)] at hk
          rw [decide_eq_false hin] at hhas
          have HH := Lib.hid hhas
          have hji : 0 ≤ (j : Int) ∧ (j : Int) < (c.S : Int) := by omega
          have HJ := Lib.hid hji
          have hN := HW.out.n
          unfold Ch.words at hN
          have hpN : 4 * c.C + 4 + 4 * j + 2 < N := by omega
          obtain ⟨p, hp⟩ : ∃ p : Nat, 4 * c.C + 4 + 4 * j + 2 = p := ⟨_, rfl⟩
          have hpi : 4 * (c.C : Int) + 4 + 4 * (j : Int) + 2 = (p : Int) := by omega
          have HPI := Lib.hid hpi
          rw [hp] at hpN
          have hp0 : (0 : Int) ≤ (p : Int) := by omega
          have hp1 : (p : Int) < (N : Int) := by omega
          obtain ⟨x', hx'⟩ : ∃ x', g[p]? = some x' := ⟨_, List.getElem?_eq_getElem (by rw [HW.out.len]; exact hpN)⟩
          have hna : nextAt c g (j : Int) = x' := by
            unfold nextAt at_
            rw [Int.toNat_natCast, hp, List.getD_eq_getElem?_getD, hx']
            rfl
          rw [hna] at hk
          have HX' : Hid (x' < 18446744073709551616) := HW.out.w64 x' (List.mem_of_getElem? hx')
          have HXP := Lib.hid hx'
          have hlt := few_lt HND.out.1 HND.out.2 hji.1 hji.2 hin
          rw [HZ.out] at hlt
          have HND2 : Hid ((out ++ [(j : Int)]).Nodup ∧ ∀ y ∈ out ++ [(j : Int)], 0 ≤ y ∧ y < c.S) := by
            refine ⟨List.nodup_append.2 ⟨HND.out.1, by simp, fun a ha b hb he => ?_⟩, fun y hy => ?_⟩
            · simp at hb
              subst hb
              subst he
              exact hin ha
            · rcases List.mem_append.1 hy with hy | hy
              · exact HND.out.2 y hy
              · simp at hy
                subst hy
                exact hji
          have HK2 : Hid (chain shelfOf (nextAt c g) c.S (c.S + 1 - (out ++ [(j : Int)]).length) (out ++ [(j : Int)]) x' = R) := by
            show _ = _
            rw [List.length_append, HZ.out, List.length_singleton, show c.S + 1 - (z + 1) = c.S - z by omega]
            exact hk
          have HLEN : Hid (out.length + [(j : Int)].length ≤ 60000) := by
            show _ ≤ _
            rw [HZ.out]
            simp
            omega
          have HSRC := fun w' => Lib.hid (src_one w' (j : Int))
          clear hk hN hp hpi hx' hna hrb hhas hso
          go_wp2_with (first | (go_at_call 87; refine HH.out.mono ?_; rintro e w5 ⟨rfl, rfl⟩) |
            (at_builtin; refine wpList_app_ints rfl _ _ rfl rfl rfl HO2.out (HRW.out.alloc (.cells #[.int .i64 (j : Int)] 3)) (HSRC _).out HLEN.out ?_; intro v' w' bs' q1 q2 q3; have Q1 := Lib.hid q1; have Q2 := Lib.hid q2; clear y0 y1 y2 y3 y4 y5; obtain ⟨y0, y1, y2, y3, y4, y5⟩ := box6' q2; clear q1 q2 q3) |
            (go_at_call 29; refine (Apart.rnext_ok HC.out.ok HJ.out Q2.out).mono ?_; rintro r w6 ⟨rfl, h6⟩; rw [HPI.out]; have cx := HW.out.rd _ h6.dropL.skip p x' HXP.out))
          obtain ⟨A9, c9, hv9, -, -⟩ := Q1.out.slice
          rw [List.length_append, HZ.out, List.length_singleton] at hv9
          refine ⟨⟨x', _, bs', rfl, HX', HND2, HK2, Q1, h6⟩, ?_⟩
          rw [hv9]
          simp [slLen]
          omega
end
end Go.Proofs.Ytigakendeghoaaa.See

/-
  Contracts: the document's heads, parts and counts (wainscotref17). No condition.
-/
namespace Go.Proofs.Ytigakendeghoaaa.See
open Go.RowKit
attribute [local go_sem ↓] Go.wp_at_zero Go.wp_at_succ
theorem rhead_ok (s o : Int) (h : headOk s o) (w : World) : Calls Try.prog 105 #[.int .i64 s, .int .i64 o] w fun e w' => e = .returned (.tuple #[.int .u64 (headW s o), .int .i64 0]) ∧ w = w' := by
  obtain ⟨h0, h1, h2, h3⟩ := h
  have hb : (s == -1) = false := beq_eq_false_iff_ne.2 (by omega)
  have hw : 64 * (s + 1) + o + 1 = ((headW s o : Nat) : Int) := by unfold headW; omega
  have HW := Lib.hid hw
  have hwr : 0 ≤ 64 * (s + 1) + o + 1 := by omega
  clear hw
  go_enter Try.func105, Try.ntmps105
  go_wp2_with fail
  go_ret2
  exact ⟨by rw [← HW.out]; rfl, rfl⟩
theorem rhead_none (w : World) : Calls Try.prog 105 #[.int .i64 (-1), .int .i64 (-1)] w fun e w' => e = .returned (.tuple #[.int .u64 0, .int .i64 0]) ∧ w = w' := by
  go_enter Try.func105, Try.ntmps105
  go_wp2_with fail
  go_ret2
  exact ⟨rfl, rfl⟩
theorem rhead_bad (s o : Int) (h : ¬ headOk s o) (hn : ¬ (s = -1 ∧ o = -1)) (w : World) : Calls Try.prog 105 #[.int .i64 s, .int .i64 o] w fun e w' => e = .returned (.tuple #[.int .u64 0, .int .i64 2]) ∧ w = w' := by
  unfold headOk at h
  by_cases hs : s = -1
  · subst hs
    have hb : (o == -1) = false := beq_eq_false_iff_ne.2 (by omega)
    go_enter Try.func105, Try.ntmps105
    go_wp2_with fail
    go_ret2
    exact ⟨rfl, rfl⟩
  · have hb : (s == -1) = false := beq_eq_false_iff_ne.2 hs
    rcases (show s < 0 ∨ (0 ≤ s ∧ 32 ≤ s) ∨ (0 ≤ s ∧ s < 32 ∧ o < -1) ∨ (0 ≤ s ∧ s < 32 ∧ ¬ o < -1 ∧ 16 ≤ o) by omega) with g | ⟨g, g1⟩ | ⟨g, g1, g2⟩ | ⟨g, g1, g2, g3⟩
    all_goals
      go_enter Try.func105, Try.ntmps105
      go_wp2_with fail
      go_ret2
      exact ⟨rfl, rfl⟩
theorem headOf_of {x : Nat} {s i : Int} (h : headOk s i) (he : headW s i = x) : headOf x = some (s, i) := by
  unfold headOk at h
  unfold headW at he
  unfold headOf
  rw [if_neg (by omega), if_pos (by omega)]
  simp only [Option.some.injEq, Prod.mk.injEq]
  omega
theorem headOf_is {x : Nat} {s i : Int} (h : headOf x = some (s, i)) : (headOk s i ∧ headW s i = x) ∨ (s = -1 ∧ i = -1 ∧ x = 0) := by
  unfold headOf at h
  unfold headOk headW
  split at h
  · simp at h; omega
  · split at h
    · simp at h; omega
    · cases h
set_option maxRecDepth 100000 in
set_option maxHeartbeats 2000000 in
theorem rheadOf_spec (x : Nat) (hx : x < 18446744073709551616) (w : World) : Calls Try.prog 84 #[.int .u64 x] w fun e w' => e = .returned (headV x) ∧ w = w' := by
  obtain ⟨V, hV⟩ : ∃ V, headV x = V := ⟨_, rfl⟩
  have HVV := Lib.hid hV
  rw [hV]
  clear hx hV
  go_enter Try.func84, Try.ntmps84
  go_wp2_with fail
  go_loopw [5] (fun sv wr => ∃ s : Int, sv = .int .i64 s ∧ -1 ≤ s ∧ s ≤ 32 ∧ Hid (∀ S I, headOf x = some (S, I) → s ≤ S) ∧ w = wr) (fun sv _ => (40 - intOf sv).toNat)
  case atStart => exact ⟨-1, rfl, by omega, by omega, (fun S I h => by rcases headOf_is h with ⟨h1, -⟩ | ⟨h1, -⟩; unfold headOk at h1; omega; omega), rfl⟩
  case round =>
    obtain ⟨s, rfl, s0, s1, HS, rfl⟩ := hrel
    by_cases hlt : s < 32
    · go_wp2_with fail
      obtain ⟨w0, hw0⟩ : ∃ w0 : World, w0 = w := ⟨_, rfl⟩
      go_loopw [6] (fun iv wr => ∃ i : Int, iv = .int .i64 i ∧ -1 ≤ i ∧ i ≤ 16 ∧ Hid (∀ S I, headOf x = some (S, I) → s < S ∨ (s = S ∧ i ≤ I)) ∧ w = wr) (fun iv _ => (40 - intOf iv).toNat)
      case atStart => exact ⟨-1, rfl, by omega, by omega, (fun S I h => by have := HS.out S I h; rcases headOf_is h with ⟨h1, -⟩ | ⟨h1, h2, -⟩; unfold headOk at h1; omega; omega), rfl⟩
      case round =>
        obtain ⟨i, rfl, i0, i1, HI, rfl⟩ := hrel
        by_cases hli : i < 16
        · by_cases hok : headOk s i
          · by_cases he : headW s i = x
            · have hb : (((headW s i : Nat) : Int) == (x : Int)) = true := by simp [he]
              have hv : V = .tuple #[.int .i64 s, .int .i64 i, .bool true] := by
                rw [← HVV.out]
                unfold headV
                rw [headOf_of hok he]
              have HV2 := Lib.hid hv
              have HOK := Lib.hid hok
              clear hv hok he
              go_wp2_with (go_at_call 105; refine (rhead_ok s i HOK.out _).mono ?_; rintro e w' ⟨rfl, rfl⟩)
              go_ret3
              exact ⟨by rw [HV2.out]; rfl, rfl⟩
            · have hb : (((headW s i : Nat) : Int) == (x : Int)) = false := by simp; omega
              have HOK := Lib.hid hok
              have HI2 : Hid (∀ S I, headOf x = some (S, I) → s < S ∨ (s = S ∧ i + 1 ≤ I)) := fun S I h => by
                rcases HI.out S I h with h1 | ⟨h1, h2⟩
                · exact .inl h1
                · refine .inr ⟨h1, ?_⟩
                  by_cases hII : i = I
                  · subst h1 hII
                    rcases headOf_is h with ⟨-, h4⟩ | ⟨h4, -⟩
                    · exact absurd h4 he
                    · unfold headOk at hok; omega
                  · omega
              clear hok he
              go_wp2_with (go_at_call 105; refine (rhead_ok s i HOK.out _).mono ?_; rintro e w' ⟨rfl, rfl⟩)
              exact ⟨⟨i + 1, rfl, by omega, by omega, HI2, trivial⟩, by simp [intOf]; omega⟩
          · by_cases hm : s = -1 ∧ i = -1
            · obtain ⟨rfl, rfl⟩ := hm
              by_cases hx0 : x = 0
              · subst hx0
                have hv : V = .tuple #[.int .i64 (-1), .int .i64 (-1), .bool true] := by
                  rw [← HVV.out]
                  rfl
                have HV2 := Lib.hid hv
                clear hv hok
                go_wp2_with (go_at_call 105; refine (rhead_none _).mono ?_; rintro e w' ⟨rfl, rfl⟩)
                go_ret3
                exact ⟨by rw [HV2.out]; rfl, rfl⟩
              · have hb : ((0 : Int) == (x : Int)) = false := by simp; omega
                have HI2 : Hid (∀ S I, headOf x = some (S, I) → (-1 : Int) < S ∨ ((-1 : Int) = S ∧ (-1 : Int) + 1 ≤ I)) := fun S I h => by
                  rcases headOf_is h with ⟨h1, -⟩ | ⟨-, -, h1⟩
                  · unfold headOk at h1; omega
                  · exact absurd h1 hx0
                clear hok
                go_wp2_with (go_at_call 105; refine (rhead_none _).mono ?_; rintro e w' ⟨rfl, rfl⟩)
                exact ⟨⟨0, rfl, by omega, by omega, HI2, trivial⟩, by simp [intOf]⟩
            · have HOK := Lib.hid hok
              have HM := Lib.hid hm
              have HI2 : Hid (∀ S I, headOf x = some (S, I) → s < S ∨ (s = S ∧ i + 1 ≤ I)) := fun S I h => by
                rcases HI.out S I h with h1 | ⟨h1, h2⟩
                · exact .inl h1
                · refine .inr ⟨h1, ?_⟩
                  by_cases hII : i = I
                  · subst h1 hII
                    rcases headOf_is h with ⟨h4, -⟩ | ⟨h4, h5, -⟩
                    · exact absurd h4 hok
                    · exact absurd ⟨h4, h5⟩ hm
                  · omega
              clear hok hm
              go_wp2_with (go_at_call 105; refine (rhead_bad s i HOK.out HM.out _).mono ?_; rintro e w' ⟨rfl, rfl⟩)
              exact ⟨⟨i + 1, rfl, by omega, by omega, HI2, trivial⟩, by simp [intOf]; omega⟩
        · have HS2 : Hid (∀ S I, headOf x = some (S, I) → s + 1 ≤ S) := fun S I h => by
            rcases HI.out S I h with h1 | ⟨h1, h2⟩
            · omega
            · rcases headOf_is h with ⟨h4, -⟩ | ⟨h4, h5, -⟩
              · unfold headOk at h4; omega
              · omega
          go_wp2_with fail
          exact ⟨⟨s + 1, rfl, by omega, by omega, HS2, trivial⟩, by simp [intOf]; omega⟩
    · have hv : V = .tuple #[.int .i64 (-1), .int .i64 (-1), .bool false] := by
        rw [← HVV.out]
        unfold headV
        cases h : headOf x with
        | none => rfl
        | some q =>
          obtain ⟨S, I⟩ := q
          have := HS.out S I h
          rcases headOf_is h with ⟨h1, -⟩ | ⟨h1, -⟩
          · unfold headOk at h1; omega
          · omega
      have HV2 := Lib.hid hv
      clear hv
      go_wp2_with fail
      go_ret3
      exact ⟨by rw [HV2.out]; rfl, rfl⟩
end Go.Proofs.Ytigakendeghoaaa.See

/-
  Contract: a processor's slot (reader.slot). No condition.
-/
namespace Go.Proofs.Ytigakendeghoaaa.See
open Go.RowKit
open chartPlaces (Ok)
attribute [local go_sem ↓] Go.wp_at_zero Go.wp_at_succ
section
variable {W w : World} {M m : List (Nat × Obj)} {B o N k b : Nat} {g : List Nat} {c : Ch} {d e : Int}
/-- what slot answers -/
def SlotPost (W : World) (m : List (Nat × Obj)) (r : Option SlotP) (e : Ending) (w' : World) : Prop := match r with
  | some x => ∃ lv lb pv pb, e = .returned (.tuple #[.agg #[.int .i64 x.slab, lv, .int .u64 x.turn, pv], .bool true]) ∧ Hid (IntsOwn true lv x.list lb) ∧ Hid (IntsOwn true pv x.parts pb) ∧ Own W (lb ++ (pb ++ m)) w'
  | none => e = .returned (.tuple #[.agg #[.int .i64 0, .slice none 0 0, .int .u64 0, .slice none 0 0], .bool false]) ∧ Own W m w'
/-- a slot's block -/
def sBlk (b : Nat) (s : Int) (lv : Value) (t : Int) (pv : Value) : Nat × Obj := (b, .cells #[.int .i64 s, lv, .int .u64 t, pv] 78)
theorem box4 {s t : Int} {lv pv : Value} (h : Own W (sBlk b s lv t pv :: m) w) : (w.cell? ⟨b, 0, none⟩ = some (.int .i64 s) ∧ w.cell? ⟨b, 1, none⟩ = some lv ∧ w.cell? ⟨b, 2, none⟩ = some (.int .u64 t) ∧ w.cell? ⟨b, 3, none⟩ = some pv) ∧ (w.frozen? ⟨b, 0, none⟩ = false ∧ w.frozen? ⟨b, 1, none⟩ = false ∧ w.frozen? ⟨b, 2, none⟩ = false ∧ w.frozen? ⟨b, 3, none⟩ = false) :=
  ⟨⟨h.cell List.mem_cons_self 0, h.cell List.mem_cons_self 1, h.cell List.mem_cons_self 2, h.cell List.mem_cons_self 3⟩, ⟨h.frozen List.mem_cons_self 0, h.frozen List.mem_cons_self 1, h.frozen List.mem_cons_self 2, h.frozen List.mem_cons_self 3⟩⟩
theorem slot_perm {α : Type} (b6 lb : List α) (x y : α) (m : List α) : (b6 ++ (lb ++ (x :: y :: m))).Perm (x :: (y :: (b6 ++ (lb ++ m)))) := by
  have h1 : (b6 ++ (lb ++ (x :: y :: m))).Perm (x :: (b6 ++ (lb ++ (y :: m)))) := by
    rw [← List.append_assoc, ← List.append_assoc]
    exact List.perm_middle
  refine h1.trans (List.Perm.cons x ?_)
  rw [← List.append_assoc, ← List.append_assoc]
  exact List.perm_middle
theorem sset {b : Nat} {s t s' t' : Int} {lv pv lv' pv' : Value} (h : Own W (sBlk b s lv t pv :: m) w) : Own W (sBlk b s' lv' t' pv' :: m) ((((w.setCell ⟨b, 0, none⟩ (.int .i64 s')).setCell ⟨b, 1, none⟩ lv').setCell ⟨b, 2, none⟩ (.int .u64 t')).setCell ⟨b, 3, none⟩ pv') := by
  have h1 := (((h.set 0 (.int .i64 s')).set 1 lv').set 2 (.int .u64 t')).set 3 pv'
  exact h1
theorem sset1 {b : Nat} {s t : Int} {lv pv lv' : Value} (h : Own W (sBlk b s lv t pv :: m) w) : Own W (sBlk b s lv' t pv :: m) (w.setCell ⟨b, 1, none⟩ lv') := h.set 1 lv'
theorem sset3 {b : Nat} {s t : Int} {lv pv pv' : Value} (h : Own W (sBlk b s lv t pv :: m) w) : Own W (sBlk b s lv t pv' :: m) (w.setCell ⟨b, 3, none⟩ pv') := h.set 3 pv'
set_option maxRecDepth 100000 in
set_option maxHeartbeats 4000000 in
theorem rslot_spec (h : Own W m w) (hc : COk c d e) (hw : WOk W m B o N k g c) (i : Nat) (hi : i < c.C) :
    Calls Try.prog 64 #[rV B o N k c d e, .int .i64 i] w (SlotPost W m (slotP c g i)) := by
  obtain ⟨n1, n2, n3, n4, n5, n6⟩ := hc.nums
  have h1 := (h.new (.cells #[.slice (some ⟨B, o, none⟩) N k, .int .i64 c.C, .int .i64 c.S, .int .i64 c.O, .int .i64 d, .int .i64 e, .int .u64 c.key] 84)).new (.cells #[.int .i64 0, .slice none 0 0, .int .u64 0, .slice none 0 0] 78)
  obtain ⟨b, hb⟩ : ∃ b, w.heap.size = b := ⟨_, rfl⟩
  simp only [World.size_alloc] at h1
  rw [hb] at h1
  have h1 : Own W (sBlk (b + 1) 0 (.slice none 0 0) 0 (.slice none 0 0) :: (rBlk b B o N k c d e :: m)) _ := h1
  obtain ⟨y0, y1, y2, y3, y4, y5, y6⟩ := box7 h1.skip
  have hN := hw.n
  unfold Ch.words at hN
  have hii : 0 ≤ (i : Int) ∧ (i : Int) < (c.C : Int) := by omega
  obtain ⟨p, hp⟩ : ∃ p : Nat, 4 * i = p := ⟨_, rfl⟩
  have hpi : 4 * (i : Int) = (p : Int) := by omega
  have HPI := Lib.hid hpi
  have hpN : p + 2 < N := by omega
  have hpb : p ≤ 32 := by omega
  have hp0 : (0 : Int) ≤ (p : Int) := by omega
  have hp1 : (p : Int) < (N : Int) := by omega
  have hp2 : (p : Int) + 1 < (N : Int) := by omega
  have hp3 : (p : Int) + 2 < (N : Int) := by omega
  obtain ⟨x0, hx0⟩ : ∃ x, g[p]? = some x := ⟨_, List.getElem?_eq_getElem (by rw [hw.len]; omega)⟩
  obtain ⟨x1, hx1⟩ : ∃ x, g[p + 1]? = some x := ⟨_, List.getElem?_eq_getElem (by rw [hw.len]; omega)⟩
  obtain ⟨p2, hpp2⟩ : ∃ p2 : Nat, p + 2 = p2 := ⟨_, rfl⟩
  have hp6 : (0 : Int) ≤ (p2 : Int) := by omega
  have hp7 : (p2 : Int) < (N : Int) := by omega
  have hw2 : IntKind.i64.wrap ((p : Int) + 2) = (p2 : Int) := by rw [IntWalk.i64_in] <;> omega
  obtain ⟨x2, hx2⟩ : ∃ x, g[p2]? = some x := ⟨_, List.getElem?_eq_getElem (by rw [hw.len]; omega)⟩
  have a0 : at_ g (4 * i) = x0 := by unfold at_; rw [hp, List.getD_eq_getElem?_getD, hx0]; rfl
  have a1 : at_ g (4 * i + 1) = x1 := by unfold at_; rw [hp, List.getD_eq_getElem?_getD, hx1]; rfl
  have a2 : at_ g (4 * i + 2) = x2 := by unfold at_; rw [hp, hpp2, List.getD_eq_getElem?_getD, hx2]; rfl
  have hBlt : B < w.heap.size := World.block_lt_of_cell? w _ (hw.rd w h p x0 hx0)
  rw [hb] at hBlt
  have hBn1 : B ≠ b + 1 := by omega
  have hBn2 : b + 1 ≠ B := by omega
  have hbn1 : b ≠ b + 1 := by omega
  have hbn2 : b + 1 ≠ b := by omega
  have hp4 : (0 : Int) ≤ (p : Int) + 2 := by omega
  have hp5 : (0 : Int) ≤ (p : Int) + 1 := by omega
  have hho := fun w => headOf_spec x0 (hw.w64 x0 (List.mem_of_getElem? hx0)) w
  have HX2 : Hid (x2 < 18446744073709551616) := hw.w64 x2 (List.mem_of_getElem? hx2)
  have HG : Hid (∀ ws, Own W m ws → ws.cell? ⟨B, o + p, none⟩ = some (.int .u64 (x0 : Int)) ∧ ws.cell? ⟨B, o + (p + 1), none⟩ = some (.int .u64 (x1 : Int)) ∧ ws.cell? ⟨B, o + p2, none⟩ = some (.int .u64 (x2 : Int))) := fun ws hws => ⟨hw.rd ws hws p x0 hx0, hw.rd ws hws (p + 1) x1 hx1, hw.rd ws hws p2 x2 hx2⟩
  unfold slotP
  rw [a0, a1, a2]
  unfold headV at hho
  have HC := Lib.hid hc
  have HW := Lib.hid hw
  have HI := Lib.hid hii
  have H1 := Lib.hid h1
  clear hpp2 hp3 hN hp hpi hx0 hx1 hx2 a0 a1 a2 hw hc hii h1 h
  obtain ⟨q0, q1, q2⟩ := HG.out _ H1.out.skip.skip
  cases hh : headOf x0 with
  | none =>
    rw [hh] at hho
    have HH := Lib.hid hho
    clear hh hho
    unfold rV
    go_enter Try.func64, Try.ntmps64
    go_wp2_with fail
    refine (Apart.head_ok HC.out.ok HI.out H1.out).mono ?_
    rintro r w2 ⟨rfl, h2⟩
    rw [HPI.out]
    clear y0 y1 y2 y3 y4 y5 y6 q0 q1 q2
    obtain ⟨y0, y1, y2, y3, y4, y5, y6⟩ := box7 h2.skip
    obtain ⟨q0, q1, q2⟩ := HG.out _ h2.skip.skip
    obtain ⟨⟨z0, z1, z2, z3⟩, ⟨f0, f1, f2, f3⟩⟩ := box4 h2
-- BODY
    go_wp2_with (go_at_call 80; refine (HH.out _).mono ?_; rintro r w3 ⟨rfl, rfl⟩)
    have h9 := sset (s' := 0) (lv' := .slice none 0 0) (t' := 0) (pv' := .slice none 0 0) h2
    obtain ⟨⟨e0, e1, e2, e3⟩, -⟩ := box4 h9
    exact bodyPost_ret (v := .tuple #[.agg #[.int .i64 0, .slice none 0 0, .int .u64 0, .slice none 0 0], .bool false]) (by simp [results, Try.f64, go_sem, e0, e1, e2, e3]) rfl ⟨rfl, h9.skip.skip⟩
  | some v =>
    obtain ⟨s, ob⟩ := v
    rw [hh] at hho
    have hge := headOf_ge hh
    simp only at hho ⊢
    have HH := Lib.hid hho
    clear hh hho
    by_cases hsS : (c.S : Int) ≤ s
    · have hlp : listP c g s ob = none := by
        unfold listP
        rw [if_neg (by omega)]
      rw [if_neg (by omega), hlp]
      simp only
      clear hlp hge
      unfold rV
      go_enter Try.func64, Try.ntmps64
      go_wp2_with fail
      refine (Apart.head_ok HC.out.ok HI.out H1.out).mono ?_
      rintro r w2 ⟨rfl, h2⟩
      rw [HPI.out]
      clear y0 y1 y2 y3 y4 y5 y6 q0 q1 q2
      obtain ⟨y0, y1, y2, y3, y4, y5, y6⟩ := box7 h2.skip
      obtain ⟨q0, q1, q2⟩ := HG.out _ h2.skip.skip
      obtain ⟨⟨z0, z1, z2, z3⟩, ⟨f0, f1, f2, f3⟩⟩ := box4 h2
      go_wp2_with (go_at_call 80; refine (HH.out _).mono ?_; rintro r w3 ⟨rfl, rfl⟩)
      have h9 := sset (s' := 0) (lv' := .slice none 0 0) (t' := 0) (pv' := .slice none 0 0) h2
      obtain ⟨⟨e0, e1, e2, e3⟩, -⟩ := box4 h9
      exact bodyPost_ret (v := .tuple #[.agg #[.int .i64 0, .slice none 0 0, .int .u64 0, .slice none 0 0], .bool false]) (by simp [results, Try.f64, go_sem, e0, e1, e2, e3]) rfl ⟨rfl, h9.skip.skip⟩
    · have hsn : ¬ (c.S : Int) ≤ s := hsS
      by_cases hm1 : s = -1
      · subst hm1
        rw [if_pos rfl]
        simp only
        clear hge
        cases hpp : partsP c g x2 with
        | none =>
          simp only
          have HPP := Lib.hid hpp
          clear hpp
          unfold rV
          go_enter Try.func64, Try.ntmps64
          go_wp2_with fail
          refine (Apart.head_ok HC.out.ok HI.out H1.out).mono ?_
          rintro r w2 ⟨rfl, h2⟩
          rw [HPI.out]
          clear y0 y1 y2 y3 y4 y5 y6 q0 q1 q2
          obtain ⟨y0, y1, y2, y3, y4, y5, y6⟩ := box7 h2.skip
          obtain ⟨q0, q1, q2⟩ := HG.out _ h2.skip.skip
          obtain ⟨⟨z0, z1, z2, z3⟩, ⟨f0, f1, f2, f3⟩⟩ := box4 h2
          go_wp2_with (go_at_call 80; refine (HH.out _).mono ?_; rintro r w3 ⟨rfl, rfl⟩)
          have h5 := sset (s' := -1) (lv' := .slice none 0 0) (t' := (x1 : Int)) (pv' := .slice none 0 0) h2
          obtain ⟨w5, hw5⟩ : ∃ w5, (((w2.setCell ⟨b + 1, 0, none⟩ (.int .i64 (-1))).setCell ⟨b + 1, 1, none⟩ (.slice none 0 0)).setCell ⟨b + 1, 2, none⟩ (.int .u64 (x1 : Int))).setCell ⟨b + 1, 3, none⟩ (.slice none 0 0) = w5 := ⟨_, rfl⟩
          rw [hw5] at h5 ⊢
          have H5 : Hid (Own W (([] : List (Nat × Obj)) ++ (sBlk (b + 1) (-1) (.slice none 0 0) x1 (.slice none 0 0) :: (rBlk b B o N k c d e :: m))) w5) := h5
          clear h5 hw5 y0 y1 y2 y3 y4 y5 y6 q0 q1 q2 z0 z1 z2 z3 f0 f1 f2 f3 h2
          have hch := fun ws (hws : Own W ([] ++ (sBlk (b + 1) (-1) (.slice none 0 0) x1 (.slice none 0 0) :: (rBlk b B o N k c d e :: m))) ws) => rchain_p hws HC.out (((HW.out.more (m' := [rBlk b B o N k c d e])).more (m' := [sBlk (b + 1) (-1) (.slice none 0 0) x1 (.slice none 0 0)])).more (m' := [])) x2 HX2.out
          have hpe : chain ofP (nextAt c g) c.S (c.S + 1) [] x2 = partsP c g x2 := rfl
          rw [hpe, HPP.out] at hch
          have h5 := H5.out
          have hw5 := h5.dropL
          obtain ⟨y0, y1, y2, y3, y4, y5, y6⟩ := box7 hw5.skip
          obtain ⟨q0, q1, q2⟩ := HG.out _ hw5.skip.skip
          obtain ⟨⟨z0, z1, z2, z3⟩, ⟨f0, f1, f2, f3⟩⟩ := box4 hw5
          have HCH := Lib.hid hch
          clear hpe hch h5 hw5
          go_region_held3 (fun w' => w'.cell? ⟨b, 0, none⟩ = some (.slice (some ⟨B, o, none⟩) N k) ∧ w'.cell? ⟨b, 1, none⟩ = some (.int .i64 c.C) ∧ w'.cell? ⟨b, 2, none⟩ = some (.int .i64 c.S) ∧ w'.cell? ⟨b, 3, none⟩ = some (.int .i64 c.O) ∧ w'.cell? ⟨b, 4, none⟩ = some (.int .i64 d) ∧ w'.cell? ⟨b, 5, none⟩ = some (.int .i64 e) ∧ w'.cell? ⟨b, 6, none⟩ = some (.int .u64 c.key) ∧ w'.cell? ⟨B, o + p2, none⟩ = some (.int .u64 (x2 : Int))) (first | (refine ⟨?_, ?_, ?_, ?_, ?_, ?_, ?_, ?_⟩ <;> assumption) | go_keep)
            (first | (go_at_call 65; refine (HCH.out _ H5.out.drew).mono ?_; rintro r w6 ⟨rfl, h6⟩; have h7 := h6.dropL; obtain ⟨y0, y1, y2, y3, y4, y5, y6⟩ := box7 h7.skip; obtain ⟨q0, q1, q2⟩ := HG.out _ h7.skip.skip; obtain ⟨⟨z0, z1, z2, z3⟩, ⟨f0, f1, f2, f3⟩⟩ := box4 h7))
          have h8 := sset3 (pv' := .slice none 0 0) h7
          obtain ⟨w8, hw8⟩ : ∃ w8, w6.setCell ⟨b + 1, 3, none⟩ (.slice none 0 0) = w8 := ⟨_, rfl⟩
          rw [hw8] at h8 ⊢
          clear y0 y1 y2 y3 y4 y5 y6 q0 q1 q2 z0 z1 z2 z3 f0 f1 f2 f3 hw8
          obtain ⟨⟨z0, z1, z2, z3⟩, ⟨f0, f1, f2, f3⟩⟩ := box4 h8
          go_wp2_with fail
          have h9 := sset (s' := 0) (lv' := .slice none 0 0) (t' := 0) (pv' := .slice none 0 0) h8
          obtain ⟨⟨e0, e1, e2, e3⟩, -⟩ := box4 h9
          exact bodyPost_ret (v := .tuple #[.agg #[.int .i64 0, .slice none 0 0, .int .u64 0, .slice none 0 0], .bool false]) (by simp [results, Try.f64, go_sem, e0, e1, e2, e3]) rfl ⟨rfl, h9.skip.skip⟩
        | some l2 =>
          simp only
          have HPP := Lib.hid hpp
          clear hpp
          unfold rV
          go_enter Try.func64, Try.ntmps64
          go_wp2_with fail
          refine (Apart.head_ok HC.out.ok HI.out H1.out).mono ?_
          rintro r w2 ⟨rfl, h2⟩
          rw [HPI.out]
          clear y0 y1 y2 y3 y4 y5 y6 q0 q1 q2
          obtain ⟨y0, y1, y2, y3, y4, y5, y6⟩ := box7 h2.skip
          obtain ⟨q0, q1, q2⟩ := HG.out _ h2.skip.skip
          obtain ⟨⟨z0, z1, z2, z3⟩, ⟨f0, f1, f2, f3⟩⟩ := box4 h2
          go_wp2_with (go_at_call 80; refine (HH.out _).mono ?_; rintro r w3 ⟨rfl, rfl⟩)
          have h5 := sset (s' := -1) (lv' := .slice none 0 0) (t' := (x1 : Int)) (pv' := .slice none 0 0) h2
          obtain ⟨w5, hw5⟩ : ∃ w5, (((w2.setCell ⟨b + 1, 0, none⟩ (.int .i64 (-1))).setCell ⟨b + 1, 1, none⟩ (.slice none 0 0)).setCell ⟨b + 1, 2, none⟩ (.int .u64 (x1 : Int))).setCell ⟨b + 1, 3, none⟩ (.slice none 0 0) = w5 := ⟨_, rfl⟩
          rw [hw5] at h5 ⊢
          have H5 : Hid (Own W (([] : List (Nat × Obj)) ++ (sBlk (b + 1) (-1) (.slice none 0 0) x1 (.slice none 0 0) :: (rBlk b B o N k c d e :: m))) w5) := h5
          clear h5 hw5 y0 y1 y2 y3 y4 y5 y6 q0 q1 q2 z0 z1 z2 z3 f0 f1 f2 f3 h2
          have hch := fun ws (hws : Own W ([] ++ (sBlk (b + 1) (-1) (.slice none 0 0) x1 (.slice none 0 0) :: (rBlk b B o N k c d e :: m))) ws) => rchain_p hws HC.out (((HW.out.more (m' := [rBlk b B o N k c d e])).more (m' := [sBlk (b + 1) (-1) (.slice none 0 0) x1 (.slice none 0 0)])).more (m' := [])) x2 HX2.out
          have hpe : chain ofP (nextAt c g) c.S (c.S + 1) [] x2 = partsP c g x2 := rfl
          rw [hpe, HPP.out] at hch
          have h5 := H5.out
          have hw5 := h5.dropL
          obtain ⟨y0, y1, y2, y3, y4, y5, y6⟩ := box7 hw5.skip
          obtain ⟨q0, q1, q2⟩ := HG.out _ hw5.skip.skip
          obtain ⟨⟨z0, z1, z2, z3⟩, ⟨f0, f1, f2, f3⟩⟩ := box4 hw5
          have HCH := Lib.hid hch
          clear hpe hch h5 hw5
          go_region_held3 (fun w' => w'.cell? ⟨b, 0, none⟩ = some (.slice (some ⟨B, o, none⟩) N k) ∧ w'.cell? ⟨b, 1, none⟩ = some (.int .i64 c.C) ∧ w'.cell? ⟨b, 2, none⟩ = some (.int .i64 c.S) ∧ w'.cell? ⟨b, 3, none⟩ = some (.int .i64 c.O) ∧ w'.cell? ⟨b, 4, none⟩ = some (.int .i64 d) ∧ w'.cell? ⟨b, 5, none⟩ = some (.int .i64 e) ∧ w'.cell? ⟨b, 6, none⟩ = some (.int .u64 c.key) ∧ w'.cell? ⟨B, o + p2, none⟩ = some (.int .u64 (x2 : Int))) (first | (refine ⟨?_, ?_, ?_, ?_, ?_, ?_, ?_, ?_⟩ <;> assumption) | go_keep)
            (first | (go_at_call 65; refine (HCH.out _ H5.out.drew).mono ?_; rintro r w6 ⟨v6, b6, rfl, K6, h6⟩; obtain ⟨A6, c6, hv6, -, -⟩ := K6.out.slice; subst hv6; have h7 := h6.dropL.dropL; obtain ⟨y0, y1, y2, y3, y4, y5, y6⟩ := box7 h7.skip; obtain ⟨q0, q1, q2⟩ := HG.out _ h7.skip.skip; obtain ⟨⟨z0, z1, z2, z3⟩, ⟨f0, f1, f2, f3⟩⟩ := box4 h7))
          have hq : Own W (sBlk (b + 1) (-1) (.slice none 0 0) x1 (.slice none 0 0) :: (rBlk b B o N k c d e :: (b6 ++ ([] ++ m)))) w6 := h6.perm (slot_perm _ _ _ _ _)
          have h8 := sset3 (pv' := .slice A6 l2.length c6) hq
          obtain ⟨w8, hw8⟩ : ∃ w8, w6.setCell ⟨b + 1, 3, none⟩ (.slice A6 l2.length c6) = w8 := ⟨_, rfl⟩
          rw [hw8] at h8 ⊢
          clear y0 y1 y2 y3 y4 y5 y6 q0 q1 q2 z0 z1 z2 z3 f0 f1 f2 f3 hw8
          obtain ⟨⟨z0, z1, z2, z3⟩, ⟨f0, f1, f2, f3⟩⟩ := box4 h8
          go_wp2_with fail
          have h9 := sset (s' := (-1)) (lv' := (.slice none 0 0)) (t' := (x1 : Int)) (pv' := .slice A6 l2.length c6) h8
          obtain ⟨⟨e0, e1, e2, e3⟩, -⟩ := box4 h9
          exact bodyPost_ret (v := .tuple #[.agg #[.int .i64 (-1), (.slice none 0 0), .int .u64 x1, .slice A6 l2.length c6], .bool true]) (by simp [results, Try.f64, go_sem, e0, e1, e2, e3]) rfl ⟨(.slice none 0 0), [], _, b6, rfl, SlO.nil _ _ _, K6, (h9.skip.skip).swap⟩
      · rw [if_neg hm1]
        have hsb : (s == -1) = false := beq_eq_false_iff_ne.2 hm1
        obtain ⟨j, rfl⟩ : ∃ j : Nat, s = j := ⟨s.toNat, by omega⟩
        have hjS : j < c.S := by omega
        have hob : -1 ≤ ob := by omega
        have hrl := fun ws (hws : Own W (sBlk (b + 1) j (.slice none 0 0) x1 (.slice none 0 0) :: (rBlk b B o N k c d e :: m)) ws) => rlist_spec hws HC.out ((HW.out.more (m' := [rBlk b B o N k c d e])).more (m' := [sBlk (b + 1) j (.slice none 0 0) x1 (.slice none 0 0)])) j hjS ob hob
        clear hge
        cases hl : listP c g j ob with
        | none =>
          rw [hl] at hrl
          have HRL := Lib.hid hrl
          simp only
          clear hl hrl
          unfold rV
          go_enter Try.func64, Try.ntmps64
          go_wp2_with fail
          refine (Apart.head_ok HC.out.ok HI.out H1.out).mono ?_
          rintro r w2 ⟨rfl, h2⟩
          rw [HPI.out]
          clear y0 y1 y2 y3 y4 y5 y6 q0 q1 q2
          obtain ⟨y0, y1, y2, y3, y4, y5, y6⟩ := box7 h2.skip
          obtain ⟨q0, q1, q2⟩ := HG.out _ h2.skip.skip
          obtain ⟨⟨z0, z1, z2, z3⟩, ⟨f0, f1, f2, f3⟩⟩ := box4 h2
          go_wp2_with (go_at_call 80; refine (HH.out _).mono ?_; rintro r w3 ⟨rfl, rfl⟩)
          have h5 := sset (s' := (j : Int)) (lv' := .slice none 0 0) (t' := (x1 : Int)) (pv' := .slice none 0 0) h2
          refine (HRL.out _ h5).mono ?_
          rintro r w6 ⟨rfl, h6⟩
          clear y0 y1 y2 y3 y4 y5 y6 q0 q1 q2 z0 z1 z2 z3 f0 f1 f2 f3 h2
          obtain ⟨⟨z0, z1, z2, z3⟩, ⟨f0, f1, f2, f3⟩⟩ := box4 h6
          go_wp2_with fail
          have h8 := sset1 (lv' := .slice none 0 0) h6
          have h9 := sset (s' := 0) (lv' := .slice none 0 0) (t' := 0) (pv' := .slice none 0 0) h8
          obtain ⟨⟨e0, e1, e2, e3⟩, -⟩ := box4 h9
          exact bodyPost_ret (v := .tuple #[.agg #[.int .i64 0, .slice none 0 0, .int .u64 0, .slice none 0 0], .bool false]) (by simp [results, Try.f64, go_sem, e0, e1, e2, e3]) rfl ⟨rfl, h9.skip.skip⟩
        | some l1 =>
          rw [hl] at hrl
          have HRL := Lib.hid hrl
          simp only
          clear hl hrl
          cases hpp : partsP c g x2 with
          | none =>
            simp only
            have HPP := Lib.hid hpp
            clear hpp
            unfold rV
            go_enter Try.func64, Try.ntmps64
            go_wp2_with fail
            refine (Apart.head_ok HC.out.ok HI.out H1.out).mono ?_
            rintro r w2 ⟨rfl, h2⟩
            rw [HPI.out]
            clear y0 y1 y2 y3 y4 y5 y6 q0 q1 q2
            obtain ⟨y0, y1, y2, y3, y4, y5, y6⟩ := box7 h2.skip
            obtain ⟨q0, q1, q2⟩ := HG.out _ h2.skip.skip
            obtain ⟨⟨z0, z1, z2, z3⟩, ⟨f0, f1, f2, f3⟩⟩ := box4 h2
            go_wp2_with (go_at_call 80; refine (HH.out _).mono ?_; rintro r w3 ⟨rfl, rfl⟩)
            have h5 := sset (s' := (j : Int)) (lv' := .slice none 0 0) (t' := (x1 : Int)) (pv' := .slice none 0 0) h2
            refine (HRL.out _ h5).mono ?_
            rintro r w6 ⟨v7, b7, rfl, K7, h6⟩
            obtain ⟨A7, c7, hv7, -, -⟩ := K7.out.slice
            subst hv7
            clear y0 y1 y2 y3 y4 y5 y6 q0 q1 q2 z0 z1 z2 z3 f0 f1 f2 f3 h2
            have h7 : Own W (sBlk (b + 1) j (.slice none 0 0) x1 (.slice none 0 0) :: (b7 ++ (rBlk b B o N k c d e :: m))) w6 := h6.perm List.perm_middle
            obtain ⟨⟨z0, z1, z2, z3⟩, ⟨f0, f1, f2, f3⟩⟩ := box4 h7
            have h8 := sset1 (lv' := .slice A7 l1.length c7) h7
            obtain ⟨w5, hw5⟩ : ∃ w5, w6.setCell ⟨b + 1, 1, none⟩ (.slice A7 l1.length c7) = w5 := ⟨_, rfl⟩
            have H5 : Hid (Own W (b7 ++ (sBlk (b + 1) j (.slice A7 l1.length c7) x1 (.slice none 0 0) :: (rBlk b B o N k c d e :: m))) w5) := by rw [hw5] at h8; exact h8.perm List.perm_middle.symm
            go_wp2_with fail
            clear h6 h7 h8 hw5 z0 z1 z2 z3 f0 f1 f2 f3
            have hch := fun ws (hws : Own W (b7 ++ (sBlk (b + 1) (j) (.slice A7 l1.length c7) x1 (.slice none 0 0) :: (rBlk b B o N k c d e :: m))) ws) => rchain_p hws HC.out (((HW.out.more (m' := [rBlk b B o N k c d e])).more (m' := [sBlk (b + 1) (j) (.slice A7 l1.length c7) x1 (.slice none 0 0)])).more (m' := b7)) x2 HX2.out
            have hpe : chain ofP (nextAt c g) c.S (c.S + 1) [] x2 = partsP c g x2 := rfl
            rw [hpe, HPP.out] at hch
            have h5 := H5.out
            have hw5 := h5.dropL
            obtain ⟨y0, y1, y2, y3, y4, y5, y6⟩ := box7 hw5.skip
            obtain ⟨q0, q1, q2⟩ := HG.out _ hw5.skip.skip
            obtain ⟨⟨z0, z1, z2, z3⟩, ⟨f0, f1, f2, f3⟩⟩ := box4 hw5
            have HCH := Lib.hid hch
            clear hpe hch h5 hw5
            go_region_held3 (fun w' => w'.cell? ⟨b, 0, none⟩ = some (.slice (some ⟨B, o, none⟩) N k) ∧ w'.cell? ⟨b, 1, none⟩ = some (.int .i64 c.C) ∧ w'.cell? ⟨b, 2, none⟩ = some (.int .i64 c.S) ∧ w'.cell? ⟨b, 3, none⟩ = some (.int .i64 c.O) ∧ w'.cell? ⟨b, 4, none⟩ = some (.int .i64 d) ∧ w'.cell? ⟨b, 5, none⟩ = some (.int .i64 e) ∧ w'.cell? ⟨b, 6, none⟩ = some (.int .u64 c.key) ∧ w'.cell? ⟨B, o + p2, none⟩ = some (.int .u64 (x2 : Int))) (first | (refine ⟨?_, ?_, ?_, ?_, ?_, ?_, ?_, ?_⟩ <;> assumption) | go_keep)
              (first | (go_at_call 65; refine (HCH.out _ H5.out.drew).mono ?_; rintro r w6 ⟨rfl, h6⟩; have h7 := h6.dropL; obtain ⟨y0, y1, y2, y3, y4, y5, y6⟩ := box7 h7.skip; obtain ⟨q0, q1, q2⟩ := HG.out _ h7.skip.skip; obtain ⟨⟨z0, z1, z2, z3⟩, ⟨f0, f1, f2, f3⟩⟩ := box4 h7))
            have h8 := sset3 (pv' := .slice none 0 0) h7
            obtain ⟨w8, hw8⟩ : ∃ w8, w6.setCell ⟨b + 1, 3, none⟩ (.slice none 0 0) = w8 := ⟨_, rfl⟩
            rw [hw8] at h8 ⊢
            clear y0 y1 y2 y3 y4 y5 y6 q0 q1 q2 z0 z1 z2 z3 f0 f1 f2 f3 hw8
            obtain ⟨⟨z0, z1, z2, z3⟩, ⟨f0, f1, f2, f3⟩⟩ := box4 h8
            go_wp2_with fail
            have h9 := sset (s' := 0) (lv' := .slice none 0 0) (t' := 0) (pv' := .slice none 0 0) h8
            obtain ⟨⟨e0, e1, e2, e3⟩, -⟩ := box4 h9
            exact bodyPost_ret (v := .tuple #[.agg #[.int .i64 0, .slice none 0 0, .int .u64 0, .slice none 0 0], .bool false]) (by simp [results, Try.f64, go_sem, e0, e1, e2, e3]) rfl ⟨rfl, h9.skip.skip⟩
          | some l2 =>
            simp only
            have HPP := Lib.hid hpp
            clear hpp
            unfold rV
            go_enter Try.func64, Try.ntmps64
            go_wp2_with fail
            refine (Apart.head_ok HC.out.ok HI.out H1.out).mono ?_
            rintro r w2 ⟨rfl, h2⟩
            rw [HPI.out]
            clear y0 y1 y2 y3 y4 y5 y6 q0 q1 q2
            obtain ⟨y0, y1, y2, y3, y4, y5, y6⟩ := box7 h2.skip
            obtain ⟨q0, q1, q2⟩ := HG.out _ h2.skip.skip
            obtain ⟨⟨z0, z1, z2, z3⟩, ⟨f0, f1, f2, f3⟩⟩ := box4 h2
            go_wp2_with (go_at_call 80; refine (HH.out _).mono ?_; rintro r w3 ⟨rfl, rfl⟩)
            have h5 := sset (s' := (j : Int)) (lv' := .slice none 0 0) (t' := (x1 : Int)) (pv' := .slice none 0 0) h2
            refine (HRL.out _ h5).mono ?_
            rintro r w6 ⟨v7, b7, rfl, K7, h6⟩
            obtain ⟨A7, c7, hv7, -, -⟩ := K7.out.slice
            subst hv7
            clear y0 y1 y2 y3 y4 y5 y6 q0 q1 q2 z0 z1 z2 z3 f0 f1 f2 f3 h2
            have h7 : Own W (sBlk (b + 1) j (.slice none 0 0) x1 (.slice none 0 0) :: (b7 ++ (rBlk b B o N k c d e :: m))) w6 := h6.perm List.perm_middle
            obtain ⟨⟨z0, z1, z2, z3⟩, ⟨f0, f1, f2, f3⟩⟩ := box4 h7
            have h8 := sset1 (lv' := .slice A7 l1.length c7) h7
            obtain ⟨w5, hw5⟩ : ∃ w5, w6.setCell ⟨b + 1, 1, none⟩ (.slice A7 l1.length c7) = w5 := ⟨_, rfl⟩
            have H5 : Hid (Own W (b7 ++ (sBlk (b + 1) j (.slice A7 l1.length c7) x1 (.slice none 0 0) :: (rBlk b B o N k c d e :: m))) w5) := by rw [hw5] at h8; exact h8.perm List.perm_middle.symm
            go_wp2_with fail
            clear h6 h7 h8 hw5 z0 z1 z2 z3 f0 f1 f2 f3
            have hch := fun ws (hws : Own W (b7 ++ (sBlk (b + 1) (j) (.slice A7 l1.length c7) x1 (.slice none 0 0) :: (rBlk b B o N k c d e :: m))) ws) => rchain_p hws HC.out (((HW.out.more (m' := [rBlk b B o N k c d e])).more (m' := [sBlk (b + 1) (j) (.slice A7 l1.length c7) x1 (.slice none 0 0)])).more (m' := b7)) x2 HX2.out
            have hpe : chain ofP (nextAt c g) c.S (c.S + 1) [] x2 = partsP c g x2 := rfl
            rw [hpe, HPP.out] at hch
            have h5 := H5.out
            have hw5 := h5.dropL
            obtain ⟨y0, y1, y2, y3, y4, y5, y6⟩ := box7 hw5.skip
            obtain ⟨q0, q1, q2⟩ := HG.out _ hw5.skip.skip
            obtain ⟨⟨z0, z1, z2, z3⟩, ⟨f0, f1, f2, f3⟩⟩ := box4 hw5
            have HCH := Lib.hid hch
            clear hpe hch h5 hw5
            go_region_held3 (fun w' => w'.cell? ⟨b, 0, none⟩ = some (.slice (some ⟨B, o, none⟩) N k) ∧ w'.cell? ⟨b, 1, none⟩ = some (.int .i64 c.C) ∧ w'.cell? ⟨b, 2, none⟩ = some (.int .i64 c.S) ∧ w'.cell? ⟨b, 3, none⟩ = some (.int .i64 c.O) ∧ w'.cell? ⟨b, 4, none⟩ = some (.int .i64 d) ∧ w'.cell? ⟨b, 5, none⟩ = some (.int .i64 e) ∧ w'.cell? ⟨b, 6, none⟩ = some (.int .u64 c.key) ∧ w'.cell? ⟨B, o + p2, none⟩ = some (.int .u64 (x2 : Int))) (first | (refine ⟨?_, ?_, ?_, ?_, ?_, ?_, ?_, ?_⟩ <;> assumption) | go_keep)
              (first | (go_at_call 65; refine (HCH.out _ H5.out.drew).mono ?_; rintro r w6 ⟨v6, b6, rfl, K6, h6⟩; obtain ⟨A6, c6, hv6, -, -⟩ := K6.out.slice; subst hv6; have h7 := h6.dropL.dropL; obtain ⟨y0, y1, y2, y3, y4, y5, y6⟩ := box7 h7.skip; obtain ⟨q0, q1, q2⟩ := HG.out _ h7.skip.skip; obtain ⟨⟨z0, z1, z2, z3⟩, ⟨f0, f1, f2, f3⟩⟩ := box4 h7))
            have hq : Own W (sBlk (b + 1) (j) (.slice A7 l1.length c7) x1 (.slice none 0 0) :: (rBlk b B o N k c d e :: (b6 ++ (b7 ++ m)))) w6 := h6.perm (slot_perm _ _ _ _ _)
            have h8 := sset3 (pv' := .slice A6 l2.length c6) hq
            obtain ⟨w8, hw8⟩ : ∃ w8, w6.setCell ⟨b + 1, 3, none⟩ (.slice A6 l2.length c6) = w8 := ⟨_, rfl⟩
            rw [hw8] at h8 ⊢
            clear y0 y1 y2 y3 y4 y5 y6 q0 q1 q2 z0 z1 z2 z3 f0 f1 f2 f3 hw8
            obtain ⟨⟨z0, z1, z2, z3⟩, ⟨f0, f1, f2, f3⟩⟩ := box4 h8
            go_wp2_with fail
            have h9 := sset (s' := (j)) (lv' := (.slice A7 l1.length c7)) (t' := (x1 : Int)) (pv' := .slice A6 l2.length c6) h8
            obtain ⟨⟨e0, e1, e2, e3⟩, -⟩ := box4 h9
            exact bodyPost_ret (v := .tuple #[.agg #[.int .i64 (j), (.slice A7 l1.length c7), .int .u64 x1, .slice A6 l2.length c6], .bool true]) (by simp [results, Try.f64, go_sem, e0, e1, e2, e3]) rfl ⟨(.slice A7 l1.length c7), b7, _, b6, rfl, K7, K6, (h9.skip.skip).swap⟩
-- BODYEND
end
end Go.Proofs.Ytigakendeghoaaa.See

/-
  Contract: a processor's slot, the document's (wainscotref21.slot). No condition. (Printed by mkrslot.py.)
-/
namespace Go.Proofs.Ytigakendeghoaaa.See
open Go.RowKit
open Apart (chV chB ChAt box6 box6')
open chartPlaces (Ok)
attribute [local go_sem ↓] Go.wp_at_zero Go.wp_at_succ
section
variable {W w : World} {M m : List (Nat × Obj)} {B o N k b : Nat} {g : List Nat} {c : Ch} {d e : Int}
/-- what slot answers -/
def RSlotPost (W : World) (m : List (Nat × Obj)) (r : Option SlotP) (e : Ending) (w' : World) : Prop := match r with
  | some x => ∃ lv lb pv pb, e = .returned (.tuple #[.agg #[.int .i64 x.slab, lv, .int .u64 x.turn, pv], .int .i64 0]) ∧ Hid (IntsOwn true lv x.list lb) ∧ Hid (IntsOwn true pv x.parts pb) ∧ Own W (lb ++ (pb ++ m)) w'
  | none => e = .returned (.tuple #[.agg #[.int .i64 0, .slice none 0 0, .int .u64 0, .slice none 0 0], .int .i64 150]) ∧ Own W m w'
theorem p3 {α : Type} (l : List α) (x y z : α) (m : List α) : (l ++ (x :: y :: z :: m)).Perm (x :: y :: z :: (l ++ m)) := by
  refine List.perm_middle.trans (.cons x ?_)
  refine List.perm_middle.trans (.cons y ?_)
  exact List.perm_middle
theorem sset_2 {b1 b2 : Nat} {s t s1 t1 s' t' : Int} {lv pv lv1 pv1 lv' pv' : Value} (h : Own W (sBlk b2 s lv t pv :: sBlk b1 s1 lv1 t1 pv1 :: m) w) : Own W (sBlk b1 s' lv' t' pv' :: sBlk b2 s lv t pv :: m) ((((w.setCell ⟨b1, 0, none⟩ (.int .i64 s')).setCell ⟨b1, 1, none⟩ lv').setCell ⟨b1, 2, none⟩ (.int .u64 t')).setCell ⟨b1, 3, none⟩ pv') := sset (h.perm (List.Perm.swap _ _ _))
theorem r1list_out (h : Own W m w) (s : Nat) (hs : c.S ≤ s) (i : Int) :
    Calls Try.prog 85 #[.slice (some ⟨B, o, none⟩) N k, cV c d e, .int .i64 s, .int .i64 i] w (ListPost W m none) := by
  have h1 := h.new (.cells #[.int .i64 c.C, .int .i64 c.S, .int .i64 c.O, .int .i64 d, .int .i64 e, .int .u64 c.key] 24)
  have hsi : (c.S : Int) ≤ (s : Int) := by omega
  unfold cV chV
  go_enter Try.func85, Try.ntmps85
  go_wp2_with fail
  go_ret2
  exact ⟨rfl, h1.skip⟩
theorem r1list_any (h : Own W m w) (hc : COk c d e) (hw : WOk W m B o N k g c) (s : Nat) (i : Int) (hi : -1 ≤ i) :
    Calls Try.prog 85 #[.slice (some ⟨B, o, none⟩) N k, cV c d e, .int .i64 s, .int .i64 i] w (ListPost W m (listP c g s i)) := by
  by_cases hs : s < c.S
  · exact r1list_spec h hc hw s hs i hi
  · have : listP c g s i = none := by
      unfold listP
      rw [if_neg (by omega)]
    rw [this]
    exact r1list_out h s (by omega) i
set_option maxRecDepth 100000 in
set_option maxHeartbeats 4000000 in
theorem r1slot_spec (h : Own W m w) (hc : COk c d e) (hw : WOk W m B o N k g c) (i : Nat) (hi : i < c.C) :
    Calls Try.prog 68 #[.slice (some ⟨B, o, none⟩) N k, cV c d e, .int .i64 i] w (RSlotPost W m (slotP c g i)) := by
  obtain ⟨n1, n2, n3, n4, n5, n6⟩ := hc.nums
  have h1 := (h.new (.cells #[.int .i64 c.C, .int .i64 c.S, .int .i64 c.O, .int .i64 d, .int .i64 e, .int .u64 c.key] 24)).new (.cells #[.int .i64 0, .slice none 0 0, .int .u64 0, .slice none 0 0] 78)
  obtain ⟨b, hb⟩ : ∃ b, w.heap.size = b := ⟨_, rfl⟩
  simp only [World.size_alloc] at h1
  rw [hb] at h1
  have h1 : Own W (sBlk (b + 1) 0 (.slice none 0 0) 0 (.slice none 0 0) :: (chB b c.C c.S c.O d e c.key :: m)) _ := h1
  obtain ⟨y0, y1, y2, y3, y4, y5⟩ := box6 h1.skip
  have hN := hw.n
  unfold Ch.words at hN
  have hii : 0 ≤ (i : Int) ∧ (i : Int) < (c.C : Int) := by omega
  obtain ⟨p, hp⟩ : ∃ p : Nat, 4 * i = p := ⟨_, rfl⟩
  have hpi : 4 * (i : Int) = (p : Int) := by omega
  have HPI := Lib.hid hpi
  have hpN : p + 2 < N := by omega
  have hpb : p ≤ 32 := by omega
  have hp0 : (0 : Int) ≤ (p : Int) := by omega
  have hp1 : (p : Int) < (N : Int) := by omega
  have hp2 : (p : Int) + 1 < (N : Int) := by omega
  obtain ⟨x0, hx0⟩ : ∃ x, g[p]? = some x := ⟨_, List.getElem?_eq_getElem (by rw [hw.len]; omega)⟩
  obtain ⟨x1, hx1⟩ : ∃ x, g[p + 1]? = some x := ⟨_, List.getElem?_eq_getElem (by rw [hw.len]; omega)⟩
  obtain ⟨p2, hpp2⟩ : ∃ p2 : Nat, p + 2 = p2 := ⟨_, rfl⟩
  have hp6 : (0 : Int) ≤ (p2 : Int) := by omega
  have hp7 : (p2 : Int) < (N : Int) := by omega
  have hw2 : IntKind.i64.wrap ((p : Int) + 2) = (p2 : Int) := by rw [IntWalk.i64_in] <;> omega
  obtain ⟨x2, hx2⟩ : ∃ x, g[p2]? = some x := ⟨_, List.getElem?_eq_getElem (by rw [hw.len]; omega)⟩
  have a0 : at_ g (4 * i) = x0 := by unfold at_; rw [hp, List.getD_eq_getElem?_getD, hx0]; rfl
  have a1 : at_ g (4 * i + 1) = x1 := by unfold at_; rw [hp, List.getD_eq_getElem?_getD, hx1]; rfl
  have a2 : at_ g (4 * i + 2) = x2 := by unfold at_; rw [hp, hpp2, List.getD_eq_getElem?_getD, hx2]; rfl
  have hBlt : B < w.heap.size := World.block_lt_of_cell? w _ (hw.rd w h p x0 hx0)
  rw [hb] at hBlt
  have hp5 : (0 : Int) ≤ (p : Int) + 1 := by omega
  have hho := fun w => rheadOf_spec x0 (hw.w64 x0 (List.mem_of_getElem? hx0)) w
  have HX2 : Hid (x2 < 18446744073709551616) := hw.w64 x2 (List.mem_of_getElem? hx2)
  have HG : Hid (∀ m' ws, Own W (m' ++ m) ws → ws.cell? ⟨B, o + p, none⟩ = some (.int .u64 (x0 : Int)) ∧ ws.cell? ⟨B, o + (p + 1), none⟩ = some (.int .u64 (x1 : Int)) ∧ ws.cell? ⟨B, o + p2, none⟩ = some (.int .u64 (x2 : Int))) := fun m' ws hws => ⟨hw.rd.more (m' := m') ws hws p x0 hx0, hw.rd.more (m' := m') ws hws (p + 1) x1 hx1, hw.rd.more (m' := m') ws hws p2 x2 hx2⟩
  unfold slotP
  rw [a0, a1, a2]
  unfold headV at hho
  have HC := Lib.hid hc
  have HW := Lib.hid hw
  have HI := Lib.hid hii
  have H1 := Lib.hid h1
  clear hpp2 hN hp hpi hx0 hx1 hx2 a0 a1 a2 hw hc hii h1 h
  cases hh : headOf x0 with
  | none =>
    rw [hh] at hho
    have HH := Lib.hid hho
    clear hh hho
    unfold cV chV
    go_enter Try.func68, Try.ntmps68
    go_wp2_with fail
    refine (Apart.rhead_ok HC.out.ok HI.out H1.out).mono ?_
    rintro r w2 ⟨rfl, h2⟩
    rw [HPI.out]
    clear y0 y1 y2 y3 y4 y5
    obtain ⟨y0, y1, y2, y3, y4, y5⟩ := box6 h2.skip
    obtain ⟨q0, q1, q2⟩ := HG.out [] _ h2.skip.skip
    obtain ⟨⟨z0, z1, z2, z3⟩, ⟨f0, f1, f2, f3⟩⟩ := box4 h2
    have hlt1 : b + 1 < w2.heap.size := World.block_lt_of_cell? w2 _ z0
    have h3 := h2.new (.cells #[.int .i64 (-1), .slice none 0 0, .int .u64 (x1 : Int), .slice none 0 0] 78)
    obtain ⟨b2, hb2⟩ : ∃ b2, w2.heap.size = b2 := ⟨_, rfl⟩
    rw [hb2] at h3 hlt1
    have h3 : Own W (sBlk b2 (-1) (.slice none 0 0) x1 (.slice none 0 0) :: sBlk (b + 1) 0 (.slice none 0 0) 0 (.slice none 0 0) :: (chB b c.C c.S c.O d e c.key :: m)) _ := h3
    have k1 : B ≠ b2 := by omega
    have k2 : b2 ≠ B := by omega
    have k3 : b ≠ b2 := by omega
    have k4 : b2 ≠ b := by omega
    have k5 : b + 1 ≠ b2 := by omega
    have k6 : b2 ≠ b + 1 := by omega
    have k7 : b + 1 ≠ B := by omega
    have k8 : B ≠ b + 1 := by omega
    have k9 : b ≠ b + 1 := by omega
    have k10 : b + 1 ≠ b := by omega
    have r := box4 h3
    have r' := box4 h3.skip
    obtain ⟨⟨z0', z1', z2', z3'⟩, ⟨f0', f1', f2', f3'⟩⟩ := r'
    obtain ⟨⟨e0', e1', e2', e3'⟩, ⟨g0', g1', g2', g3'⟩⟩ := r
    obtain ⟨y0', y1', y2', y3', y4', y5'⟩ := box6 h3.skip.skip
    obtain ⟨q0', q1', q2'⟩ := HG.out [] _ h3.skip.skip.skip
    go_wp2_with (go_at_call 84; refine (HH.out _).mono ?_; rintro r w3 ⟨rfl, rfl⟩)
    have h9 := sset (s' := 0) (lv' := (.slice none 0 0)) (t' := 0) (pv' := (.slice none 0 0)) h2
    have h10 := h9.new (.cells #[.int .i64 (-1), .slice none 0 0, .int .u64 (x1 : Int), .slice none 0 0] 78)
    obtain ⟨⟨t0, t1, t2, t3⟩, -⟩ := box4 h10.skip
    exact bodyPost_ret (v := .tuple #[.agg #[.int .i64 0, .slice none 0 0, .int .u64 0, .slice none 0 0], .int .i64 150]) (by simp [results, Try.f68, go_sem, t0, t1, t2, t3]) rfl ⟨rfl, h10.skip.skip.skip⟩
  | some v =>
    obtain ⟨s, ob⟩ := v
    rw [hh] at hho
    have hge := headOf_ge hh
    simp only at hho ⊢
    have HH := Lib.hid hho
    clear hh hho
    by_cases hm1 : s = -1
    · subst hm1
      rw [if_pos rfl]
      simp only
      clear hge
      have KL : Hid (IntsOwn true (.slice none 0 0) [] []) := SlO.nil _ _ _
      cases hpp : partsP c g x2 with
      | none =>
        simp only
        have HPP := Lib.hid hpp
        clear hpp
        unfold cV chV
        go_enter Try.func68, Try.ntmps68
        go_wp2_with fail
        refine (Apart.rhead_ok HC.out.ok HI.out H1.out).mono ?_
        rintro r w2 ⟨rfl, h2⟩
        rw [HPI.out]
        clear y0 y1 y2 y3 y4 y5
        obtain ⟨y0, y1, y2, y3, y4, y5⟩ := box6 h2.skip
        obtain ⟨q0, q1, q2⟩ := HG.out [] _ h2.skip.skip
        obtain ⟨⟨z0, z1, z2, z3⟩, ⟨f0, f1, f2, f3⟩⟩ := box4 h2
        have hlt1 : b + 1 < w2.heap.size := World.block_lt_of_cell? w2 _ z0
        have h3 := h2.new (.cells #[.int .i64 (-1), .slice none 0 0, .int .u64 (x1 : Int), .slice none 0 0] 78)
        obtain ⟨b2, hb2⟩ : ∃ b2, w2.heap.size = b2 := ⟨_, rfl⟩
        rw [hb2] at h3 hlt1
        have h3 : Own W (sBlk b2 (-1) (.slice none 0 0) x1 (.slice none 0 0) :: sBlk (b + 1) 0 (.slice none 0 0) 0 (.slice none 0 0) :: (chB b c.C c.S c.O d e c.key :: m)) _ := h3
        have k1 : B ≠ b2 := by omega
        have k2 : b2 ≠ B := by omega
        have k3 : b ≠ b2 := by omega
        have k4 : b2 ≠ b := by omega
        have k5 : b + 1 ≠ b2 := by omega
        have k6 : b2 ≠ b + 1 := by omega
        have k7 : b + 1 ≠ B := by omega
        have k8 : B ≠ b + 1 := by omega
        have k9 : b ≠ b + 1 := by omega
        have k10 : b + 1 ≠ b := by omega
        have r := box4 h3
        have r' := box4 h3.skip
        obtain ⟨⟨z0', z1', z2', z3'⟩, ⟨f0', f1', f2', f3'⟩⟩ := r'
        obtain ⟨⟨e0', e1', e2', e3'⟩, ⟨g0', g1', g2', g3'⟩⟩ := r
        obtain ⟨y0', y1', y2', y3', y4', y5'⟩ := box6 h3.skip.skip
        obtain ⟨q0', q1', q2'⟩ := HG.out [] _ h3.skip.skip.skip
        go_wp2_with (go_at_call 84; refine (HH.out _).mono ?_; rintro r w3 ⟨rfl, rfl⟩)
        clear y0 y1 y2 y3 y4 y5 q0 q1 q2 z0 z1 z2 z3 f0 f1 f2 f3 z0' z1' z2' z3' f0' f1' f2' f3' e0' e1' e2' e3' g0' g1' g2' g3' y0' y1' y2' y3' y4' y5' q0' q1' q2'
        obtain ⟨w5, hw5⟩ : ∃ w5, w2.alloc (.cells #[.int .i64 (-1), .slice none 0 0, .int .u64 (x1 : Int), .slice none 0 0] 78) = w5 := ⟨_, rfl⟩
        rw [hw5] at h3 ⊢
        have H5 : Hid (Own W (sBlk b2 (-1) (.slice none 0 0) x1 (.slice none 0 0) :: sBlk (b + 1) 0 (.slice none 0 0) 0 (.slice none 0 0) :: (chB b c.C c.S c.O d e c.key :: (([] : List (Nat × Obj)) ++ m))) w5) := h3
        clear hb2
        clear h2 h3 hw5
        have h5 := H5.out
        have hch := fun ws (hws : Own W (sBlk b2 (-1) (.slice none 0 0) x1 (.slice none 0 0) :: sBlk (b + 1) 0 (.slice none 0 0) 0 (.slice none 0 0) :: (chB b c.C c.S c.O d e c.key :: (([] : List (Nat × Obj)) ++ m))) ws) => r1parts_spec hws HC.out ((((HW.out.more (m' := ([] : List (Nat × Obj)))).more (m' := [chB b c.C c.S c.O d e c.key])).more (m' := [sBlk (b + 1) 0 (.slice none 0 0) 0 (.slice none 0 0)])).more (m' := [sBlk b2 (-1) (.slice none 0 0) x1 (.slice none 0 0)])) x2 HX2.out
        have hpe : chain ofP (nextAt c g) c.S (c.S + 1) [] x2 = partsP c g x2 := rfl
        rw [hpe, HPP.out] at hch
        obtain ⟨y0, y1, y2, y3, y4, y5⟩ := box6 h5.skip.skip
        obtain ⟨q0, q1, q2⟩ := HG.out _ _ h5.skip.skip.skip
        obtain ⟨⟨z0, z1, z2, z3⟩, ⟨f0, f1, f2, f3⟩⟩ := box4 h5.skip
        obtain ⟨⟨e0, e1, e2, e3⟩, ⟨g0, g1, g2, g3⟩⟩ := box4 h5
        have HCH := Lib.hid hch
        clear hpe hch h5
        go_region_held3 (fun w' => w'.cell? ⟨b, 0, none⟩ = some (.int .i64 c.C) ∧ w'.cell? ⟨b, 1, none⟩ = some (.int .i64 c.S) ∧ w'.cell? ⟨b, 2, none⟩ = some (.int .i64 c.O) ∧ w'.cell? ⟨b, 3, none⟩ = some (.int .i64 d) ∧ w'.cell? ⟨b, 4, none⟩ = some (.int .i64 e) ∧ w'.cell? ⟨b, 5, none⟩ = some (.int .u64 c.key) ∧ w'.cell? ⟨B, o + p2, none⟩ = some (.int .u64 (x2 : Int))) (first | (refine ⟨?_, ?_, ?_, ?_, ?_, ?_, ?_⟩ <;> assumption) | go_keep)
          (first | (go_at_call 86; refine (HCH.out _ H5.out.drew).mono ?_; rintro r w6 ⟨rfl, h6⟩; obtain ⟨y0, y1, y2, y3, y4, y5⟩ := box6 h6.skip.skip; obtain ⟨q0, q1, q2⟩ := HG.out _ _ h6.skip.skip.skip; obtain ⟨⟨z0, z1, z2, z3⟩, ⟨f0, f1, f2, f3⟩⟩ := box4 h6.skip; obtain ⟨⟨e0, e1, e2, e3⟩, ⟨g0, g1, g2, g3⟩⟩ := box4 h6))
        go_wp2_with fail
        have h9 := sset_2 (s' := 0) (lv' := (.slice none 0 0)) (t' := 0) (pv' := (.slice none 0 0)) h6
        obtain ⟨⟨t0, t1, t2, t3⟩, -⟩ := box4 h9
        exact bodyPost_ret (v := .tuple #[.agg #[.int .i64 0, .slice none 0 0, .int .u64 0, .slice none 0 0], .int .i64 150]) (by simp [results, Try.f68, go_sem, t0, t1, t2, t3]) rfl ⟨rfl, h9.skip.skip.skip.dropL⟩
      | some l2 =>
        simp only
        have HPP := Lib.hid hpp
        clear hpp
        unfold cV chV
        go_enter Try.func68, Try.ntmps68
        go_wp2_with fail
        refine (Apart.rhead_ok HC.out.ok HI.out H1.out).mono ?_
        rintro r w2 ⟨rfl, h2⟩
        rw [HPI.out]
        clear y0 y1 y2 y3 y4 y5
        obtain ⟨y0, y1, y2, y3, y4, y5⟩ := box6 h2.skip
        obtain ⟨q0, q1, q2⟩ := HG.out [] _ h2.skip.skip
        obtain ⟨⟨z0, z1, z2, z3⟩, ⟨f0, f1, f2, f3⟩⟩ := box4 h2
        have hlt1 : b + 1 < w2.heap.size := World.block_lt_of_cell? w2 _ z0
        have h3 := h2.new (.cells #[.int .i64 (-1), .slice none 0 0, .int .u64 (x1 : Int), .slice none 0 0] 78)
        obtain ⟨b2, hb2⟩ : ∃ b2, w2.heap.size = b2 := ⟨_, rfl⟩
        rw [hb2] at h3 hlt1
        have h3 : Own W (sBlk b2 (-1) (.slice none 0 0) x1 (.slice none 0 0) :: sBlk (b + 1) 0 (.slice none 0 0) 0 (.slice none 0 0) :: (chB b c.C c.S c.O d e c.key :: m)) _ := h3
        have k1 : B ≠ b2 := by omega
        have k2 : b2 ≠ B := by omega
        have k3 : b ≠ b2 := by omega
        have k4 : b2 ≠ b := by omega
        have k5 : b + 1 ≠ b2 := by omega
        have k6 : b2 ≠ b + 1 := by omega
        have k7 : b + 1 ≠ B := by omega
        have k8 : B ≠ b + 1 := by omega
        have k9 : b ≠ b + 1 := by omega
        have k10 : b + 1 ≠ b := by omega
        have r := box4 h3
        have r' := box4 h3.skip
        obtain ⟨⟨z0', z1', z2', z3'⟩, ⟨f0', f1', f2', f3'⟩⟩ := r'
        obtain ⟨⟨e0', e1', e2', e3'⟩, ⟨g0', g1', g2', g3'⟩⟩ := r
        obtain ⟨y0', y1', y2', y3', y4', y5'⟩ := box6 h3.skip.skip
        obtain ⟨q0', q1', q2'⟩ := HG.out [] _ h3.skip.skip.skip
        go_wp2_with (go_at_call 84; refine (HH.out _).mono ?_; rintro r w3 ⟨rfl, rfl⟩)
        clear y0 y1 y2 y3 y4 y5 q0 q1 q2 z0 z1 z2 z3 f0 f1 f2 f3 z0' z1' z2' z3' f0' f1' f2' f3' e0' e1' e2' e3' g0' g1' g2' g3' y0' y1' y2' y3' y4' y5' q0' q1' q2'
        obtain ⟨w5, hw5⟩ : ∃ w5, w2.alloc (.cells #[.int .i64 (-1), .slice none 0 0, .int .u64 (x1 : Int), .slice none 0 0] 78) = w5 := ⟨_, rfl⟩
        rw [hw5] at h3 ⊢
        have H5 : Hid (Own W (sBlk b2 (-1) (.slice none 0 0) x1 (.slice none 0 0) :: sBlk (b + 1) 0 (.slice none 0 0) 0 (.slice none 0 0) :: (chB b c.C c.S c.O d e c.key :: (([] : List (Nat × Obj)) ++ m))) w5) := h3
        clear hb2
        clear h2 h3 hw5
        have h5 := H5.out
        have hch := fun ws (hws : Own W (sBlk b2 (-1) (.slice none 0 0) x1 (.slice none 0 0) :: sBlk (b + 1) 0 (.slice none 0 0) 0 (.slice none 0 0) :: (chB b c.C c.S c.O d e c.key :: (([] : List (Nat × Obj)) ++ m))) ws) => r1parts_spec hws HC.out ((((HW.out.more (m' := ([] : List (Nat × Obj)))).more (m' := [chB b c.C c.S c.O d e c.key])).more (m' := [sBlk (b + 1) 0 (.slice none 0 0) 0 (.slice none 0 0)])).more (m' := [sBlk b2 (-1) (.slice none 0 0) x1 (.slice none 0 0)])) x2 HX2.out
        have hpe : chain ofP (nextAt c g) c.S (c.S + 1) [] x2 = partsP c g x2 := rfl
        rw [hpe, HPP.out] at hch
        obtain ⟨y0, y1, y2, y3, y4, y5⟩ := box6 h5.skip.skip
        obtain ⟨q0, q1, q2⟩ := HG.out _ _ h5.skip.skip.skip
        obtain ⟨⟨z0, z1, z2, z3⟩, ⟨f0, f1, f2, f3⟩⟩ := box4 h5.skip
        obtain ⟨⟨e0, e1, e2, e3⟩, ⟨g0, g1, g2, g3⟩⟩ := box4 h5
        have HCH := Lib.hid hch
        clear hpe hch h5
        go_region_held3 (fun w' => w'.cell? ⟨b, 0, none⟩ = some (.int .i64 c.C) ∧ w'.cell? ⟨b, 1, none⟩ = some (.int .i64 c.S) ∧ w'.cell? ⟨b, 2, none⟩ = some (.int .i64 c.O) ∧ w'.cell? ⟨b, 3, none⟩ = some (.int .i64 d) ∧ w'.cell? ⟨b, 4, none⟩ = some (.int .i64 e) ∧ w'.cell? ⟨b, 5, none⟩ = some (.int .u64 c.key) ∧ w'.cell? ⟨B, o + p2, none⟩ = some (.int .u64 (x2 : Int))) (first | (refine ⟨?_, ?_, ?_, ?_, ?_, ?_, ?_⟩ <;> assumption) | go_keep)
          (first | (go_at_call 86; refine (HCH.out _ H5.out.drew).mono ?_; rintro r w6 ⟨v6, b6, rfl, K6, h6⟩; obtain ⟨A6, c6, hv6, -, -⟩ := K6.out.slice; subst hv6; have h7 := h6.perm (p3 _ _ _ _ _); obtain ⟨y0, y1, y2, y3, y4, y5⟩ := box6 h7.skip.skip; obtain ⟨q0, q1, q2⟩ := HG.out _ _ (h7.skip.skip.skip.dropL); obtain ⟨⟨z0, z1, z2, z3⟩, ⟨f0, f1, f2, f3⟩⟩ := box4 h7.skip; obtain ⟨⟨e0, e1, e2, e3⟩, ⟨g0, g1, g2, g3⟩⟩ := box4 h7))
        go_wp2_with fail
        have h8 := sset3 (pv' := .slice A6 l2.length c6) h7
        have h9 := sset_2 (s' := (-1)) (lv' := (.slice none 0 0)) (t' := (x1 : Int)) (pv' := .slice A6 l2.length c6) h8
        obtain ⟨⟨t0, t1, t2, t3⟩, -⟩ := box4 h9
        exact bodyPost_ret (v := .tuple #[.agg #[.int .i64 (-1), (.slice none 0 0), .int .u64 x1, .slice A6 l2.length c6], .int .i64 0]) (by simp [results, Try.f68, go_sem, t0, t1, t2, t3]) rfl ⟨(.slice none 0 0), ([] : List (Nat × Obj)), _, b6, rfl, KL.out, K6, (h9.skip.skip.skip).swap⟩
    · rw [if_neg hm1]
      have hob : -1 ≤ ob := by omega
      obtain ⟨j, rfl⟩ : ∃ j : Nat, s = j := ⟨s.toNat, by omega⟩
      have hs0 : 0 ≤ (j : Int) := by omega
      have hrl := fun b2 ws (hws : Own W (sBlk b2 j (.slice none 0 0) x1 (.slice none 0 0) :: sBlk (b + 1) 0 (.slice none 0 0) 0 (.slice none 0 0) :: (chB b c.C c.S c.O d e c.key :: m)) ws) => r1list_any hws HC.out (((HW.out.more (m' := [chB b c.C c.S c.O d e c.key])).more (m' := [sBlk (b + 1) 0 (.slice none 0 0) 0 (.slice none 0 0)])).more (m' := [sBlk b2 j (.slice none 0 0) x1 (.slice none 0 0)])) j ob hob
      clear hge
      cases hl : listP c g j ob with
      | none =>
        rw [hl] at hrl
        have HRL := Lib.hid hrl
        simp only
        clear hl hrl
        unfold cV chV
        go_enter Try.func68, Try.ntmps68
        go_wp2_with fail
        refine (Apart.rhead_ok HC.out.ok HI.out H1.out).mono ?_
        rintro r w2 ⟨rfl, h2⟩
        rw [HPI.out]
        clear y0 y1 y2 y3 y4 y5
        obtain ⟨y0, y1, y2, y3, y4, y5⟩ := box6 h2.skip
        obtain ⟨q0, q1, q2⟩ := HG.out [] _ h2.skip.skip
        obtain ⟨⟨z0, z1, z2, z3⟩, ⟨f0, f1, f2, f3⟩⟩ := box4 h2
        have hlt1 : b + 1 < w2.heap.size := World.block_lt_of_cell? w2 _ z0
        have h3 := h2.new (.cells #[.int .i64 (j : Int), .slice none 0 0, .int .u64 (x1 : Int), .slice none 0 0] 78)
        obtain ⟨b2, hb2⟩ : ∃ b2, w2.heap.size = b2 := ⟨_, rfl⟩
        rw [hb2] at h3 hlt1
        have h3 : Own W (sBlk b2 (j : Int) (.slice none 0 0) x1 (.slice none 0 0) :: sBlk (b + 1) 0 (.slice none 0 0) 0 (.slice none 0 0) :: (chB b c.C c.S c.O d e c.key :: m)) _ := h3
        have k1 : B ≠ b2 := by omega
        have k2 : b2 ≠ B := by omega
        have k3 : b ≠ b2 := by omega
        have k4 : b2 ≠ b := by omega
        have k5 : b + 1 ≠ b2 := by omega
        have k6 : b2 ≠ b + 1 := by omega
        have k7 : b + 1 ≠ B := by omega
        have k8 : B ≠ b + 1 := by omega
        have k9 : b ≠ b + 1 := by omega
        have k10 : b + 1 ≠ b := by omega
        have r := box4 h3
        have r' := box4 h3.skip
        obtain ⟨⟨z0', z1', z2', z3'⟩, ⟨f0', f1', f2', f3'⟩⟩ := r'
        obtain ⟨⟨e0', e1', e2', e3'⟩, ⟨g0', g1', g2', g3'⟩⟩ := r
        obtain ⟨y0', y1', y2', y3', y4', y5'⟩ := box6 h3.skip.skip
        obtain ⟨q0', q1', q2'⟩ := HG.out [] _ h3.skip.skip.skip
        go_wp2_with (go_at_call 84; refine (HH.out _).mono ?_; rintro r w3 ⟨rfl, rfl⟩)
        refine (HRL.out _ _ h3).mono ?_
        rintro r w6 ⟨rfl, h6⟩
        clear y0 y1 y2 y3 y4 y5 q0 q1 q2 z0 z1 z2 z3 f0 f1 f2 f3 z0' z1' z2' z3' f0' f1' f2' f3' e0' e1' e2' e3' g0' g1' g2' g3' y0' y1' y2' y3' y4' y5' q0' q1' q2'
        obtain ⟨y0, y1, y2, y3, y4, y5⟩ := box6 h6.skip.skip
        obtain ⟨q0, q1, q2⟩ := HG.out [] _ h6.skip.skip.skip
        obtain ⟨⟨z0, z1, z2, z3⟩, ⟨f0, f1, f2, f3⟩⟩ := box4 h6.skip
        obtain ⟨⟨e0, e1, e2, e3⟩, ⟨g0, g1, g2, g3⟩⟩ := box4 h6
        go_wp2_with fail
        have h8 := sset1 (lv' := (.slice none 0 0)) h6
        have h9 := sset_2 (s' := 0) (lv' := (.slice none 0 0)) (t' := 0) (pv' := (.slice none 0 0)) h8
        obtain ⟨⟨t0, t1, t2, t3⟩, -⟩ := box4 h9
        exact bodyPost_ret (v := .tuple #[.agg #[.int .i64 0, .slice none 0 0, .int .u64 0, .slice none 0 0], .int .i64 150]) (by simp [results, Try.f68, go_sem, t0, t1, t2, t3]) rfl ⟨rfl, h9.skip.skip.skip⟩
      | some l1 =>
        rw [hl] at hrl
        have HRL := Lib.hid hrl
        simp only
        clear hl hrl
        cases hpp : partsP c g x2 with
        | none =>
          simp only
          have HPP := Lib.hid hpp
          clear hpp
          unfold cV chV
          go_enter Try.func68, Try.ntmps68
          go_wp2_with fail
          refine (Apart.rhead_ok HC.out.ok HI.out H1.out).mono ?_
          rintro r w2 ⟨rfl, h2⟩
          rw [HPI.out]
          clear y0 y1 y2 y3 y4 y5
          obtain ⟨y0, y1, y2, y3, y4, y5⟩ := box6 h2.skip
          obtain ⟨q0, q1, q2⟩ := HG.out [] _ h2.skip.skip
          obtain ⟨⟨z0, z1, z2, z3⟩, ⟨f0, f1, f2, f3⟩⟩ := box4 h2
          have hlt1 : b + 1 < w2.heap.size := World.block_lt_of_cell? w2 _ z0
          have h3 := h2.new (.cells #[.int .i64 (j : Int), .slice none 0 0, .int .u64 (x1 : Int), .slice none 0 0] 78)
          obtain ⟨b2, hb2⟩ : ∃ b2, w2.heap.size = b2 := ⟨_, rfl⟩
          rw [hb2] at h3 hlt1
          have h3 : Own W (sBlk b2 (j : Int) (.slice none 0 0) x1 (.slice none 0 0) :: sBlk (b + 1) 0 (.slice none 0 0) 0 (.slice none 0 0) :: (chB b c.C c.S c.O d e c.key :: m)) _ := h3
          have k1 : B ≠ b2 := by omega
          have k2 : b2 ≠ B := by omega
          have k3 : b ≠ b2 := by omega
          have k4 : b2 ≠ b := by omega
          have k5 : b + 1 ≠ b2 := by omega
          have k6 : b2 ≠ b + 1 := by omega
          have k7 : b + 1 ≠ B := by omega
          have k8 : B ≠ b + 1 := by omega
          have k9 : b ≠ b + 1 := by omega
          have k10 : b + 1 ≠ b := by omega
          have r := box4 h3
          have r' := box4 h3.skip
          obtain ⟨⟨z0', z1', z2', z3'⟩, ⟨f0', f1', f2', f3'⟩⟩ := r'
          obtain ⟨⟨e0', e1', e2', e3'⟩, ⟨g0', g1', g2', g3'⟩⟩ := r
          obtain ⟨y0', y1', y2', y3', y4', y5'⟩ := box6 h3.skip.skip
          obtain ⟨q0', q1', q2'⟩ := HG.out [] _ h3.skip.skip.skip
          go_wp2_with (go_at_call 84; refine (HH.out _).mono ?_; rintro r w3 ⟨rfl, rfl⟩)
          refine (HRL.out _ _ h3).mono ?_
          rintro r w6 ⟨v7, b7, rfl, KL, h6⟩
          obtain ⟨A7, c7, hv7, -, -⟩ := KL.out.slice
          subst hv7
          clear y0 y1 y2 y3 y4 y5 q0 q1 q2 z0 z1 z2 z3 f0 f1 f2 f3 z0' z1' z2' z3' f0' f1' f2' f3' e0' e1' e2' e3' g0' g1' g2' g3' y0' y1' y2' y3' y4' y5' q0' q1' q2'
          have h7 := h6.perm (p3 _ _ _ _ _)
          obtain ⟨y0, y1, y2, y3, y4, y5⟩ := box6 h7.skip.skip
          obtain ⟨q0, q1, q2⟩ := HG.out _ _ h7.skip.skip.skip
          obtain ⟨⟨z0, z1, z2, z3⟩, ⟨f0, f1, f2, f3⟩⟩ := box4 h7.skip
          obtain ⟨⟨e0, e1, e2, e3⟩, ⟨g0, g1, g2, g3⟩⟩ := box4 h7
          have h8 := sset1 (lv' := (.slice A7 l1.length c7)) h7
          obtain ⟨w5, hw5⟩ : ∃ w5, w6.setCell ⟨b2, 1, none⟩ (.slice A7 l1.length c7) = w5 := ⟨_, rfl⟩
          rw [hw5] at h8
          have H5 := Lib.hid h8
          go_wp2_with fail
          clear h6 h7 h8 hw5 h2 h3 hb2 z0 z1 z2 z3 f0 f1 f2 f3 y0 y1 y2 y3 y4 y5 q0 q1 q2 e0 e1 e2 e3 g0 g1 g2 g3
          have h5 := H5.out
          have hch := fun ws (hws : Own W (sBlk b2 (j : Int) (.slice A7 l1.length c7) x1 (.slice none 0 0) :: sBlk (b + 1) 0 (.slice none 0 0) 0 (.slice none 0 0) :: (chB b c.C c.S c.O d e c.key :: (b7 ++ m))) ws) => r1parts_spec hws HC.out ((((HW.out.more (m' := b7)).more (m' := [chB b c.C c.S c.O d e c.key])).more (m' := [sBlk (b + 1) 0 (.slice none 0 0) 0 (.slice none 0 0)])).more (m' := [sBlk b2 (j : Int) (.slice A7 l1.length c7) x1 (.slice none 0 0)])) x2 HX2.out
          have hpe : chain ofP (nextAt c g) c.S (c.S + 1) [] x2 = partsP c g x2 := rfl
          rw [hpe, HPP.out] at hch
          obtain ⟨y0, y1, y2, y3, y4, y5⟩ := box6 h5.skip.skip
          obtain ⟨q0, q1, q2⟩ := HG.out _ _ h5.skip.skip.skip
          obtain ⟨⟨z0, z1, z2, z3⟩, ⟨f0, f1, f2, f3⟩⟩ := box4 h5.skip
          obtain ⟨⟨e0, e1, e2, e3⟩, ⟨g0, g1, g2, g3⟩⟩ := box4 h5
          have HCH := Lib.hid hch
          clear hpe hch h5
          go_region_held3 (fun w' => w'.cell? ⟨b, 0, none⟩ = some (.int .i64 c.C) ∧ w'.cell? ⟨b, 1, none⟩ = some (.int .i64 c.S) ∧ w'.cell? ⟨b, 2, none⟩ = some (.int .i64 c.O) ∧ w'.cell? ⟨b, 3, none⟩ = some (.int .i64 d) ∧ w'.cell? ⟨b, 4, none⟩ = some (.int .i64 e) ∧ w'.cell? ⟨b, 5, none⟩ = some (.int .u64 c.key) ∧ w'.cell? ⟨B, o + p2, none⟩ = some (.int .u64 (x2 : Int))) (first | (refine ⟨?_, ?_, ?_, ?_, ?_, ?_, ?_⟩ <;> assumption) | go_keep)
            (first | (go_at_call 86; refine (HCH.out _ H5.out.drew).mono ?_; rintro r w6 ⟨rfl, h6⟩; obtain ⟨y0, y1, y2, y3, y4, y5⟩ := box6 h6.skip.skip; obtain ⟨q0, q1, q2⟩ := HG.out _ _ h6.skip.skip.skip; obtain ⟨⟨z0, z1, z2, z3⟩, ⟨f0, f1, f2, f3⟩⟩ := box4 h6.skip; obtain ⟨⟨e0, e1, e2, e3⟩, ⟨g0, g1, g2, g3⟩⟩ := box4 h6))
          go_wp2_with fail
          have h9 := sset_2 (s' := 0) (lv' := (.slice none 0 0)) (t' := 0) (pv' := (.slice none 0 0)) h6
          obtain ⟨⟨t0, t1, t2, t3⟩, -⟩ := box4 h9
          exact bodyPost_ret (v := .tuple #[.agg #[.int .i64 0, .slice none 0 0, .int .u64 0, .slice none 0 0], .int .i64 150]) (by simp [results, Try.f68, go_sem, t0, t1, t2, t3]) rfl ⟨rfl, h9.skip.skip.skip.dropL⟩
        | some l2 =>
          simp only
          have HPP := Lib.hid hpp
          clear hpp
          unfold cV chV
          go_enter Try.func68, Try.ntmps68
          go_wp2_with fail
          refine (Apart.rhead_ok HC.out.ok HI.out H1.out).mono ?_
          rintro r w2 ⟨rfl, h2⟩
          rw [HPI.out]
          clear y0 y1 y2 y3 y4 y5
          obtain ⟨y0, y1, y2, y3, y4, y5⟩ := box6 h2.skip
          obtain ⟨q0, q1, q2⟩ := HG.out [] _ h2.skip.skip
          obtain ⟨⟨z0, z1, z2, z3⟩, ⟨f0, f1, f2, f3⟩⟩ := box4 h2
          have hlt1 : b + 1 < w2.heap.size := World.block_lt_of_cell? w2 _ z0
          have h3 := h2.new (.cells #[.int .i64 (j : Int), .slice none 0 0, .int .u64 (x1 : Int), .slice none 0 0] 78)
          obtain ⟨b2, hb2⟩ : ∃ b2, w2.heap.size = b2 := ⟨_, rfl⟩
          rw [hb2] at h3 hlt1
          have h3 : Own W (sBlk b2 (j : Int) (.slice none 0 0) x1 (.slice none 0 0) :: sBlk (b + 1) 0 (.slice none 0 0) 0 (.slice none 0 0) :: (chB b c.C c.S c.O d e c.key :: m)) _ := h3
          have k1 : B ≠ b2 := by omega
          have k2 : b2 ≠ B := by omega
          have k3 : b ≠ b2 := by omega
          have k4 : b2 ≠ b := by omega
          have k5 : b + 1 ≠ b2 := by omega
          have k6 : b2 ≠ b + 1 := by omega
          have k7 : b + 1 ≠ B := by omega
          have k8 : B ≠ b + 1 := by omega
          have k9 : b ≠ b + 1 := by omega
          have k10 : b + 1 ≠ b := by omega
          have r := box4 h3
          have r' := box4 h3.skip
          obtain ⟨⟨z0', z1', z2', z3'⟩, ⟨f0', f1', f2', f3'⟩⟩ := r'
          obtain ⟨⟨e0', e1', e2', e3'⟩, ⟨g0', g1', g2', g3'⟩⟩ := r
          obtain ⟨y0', y1', y2', y3', y4', y5'⟩ := box6 h3.skip.skip
          obtain ⟨q0', q1', q2'⟩ := HG.out [] _ h3.skip.skip.skip
          go_wp2_with (go_at_call 84; refine (HH.out _).mono ?_; rintro r w3 ⟨rfl, rfl⟩)
          refine (HRL.out _ _ h3).mono ?_
          rintro r w6 ⟨v7, b7, rfl, KL, h6⟩
          obtain ⟨A7, c7, hv7, -, -⟩ := KL.out.slice
          subst hv7
          clear y0 y1 y2 y3 y4 y5 q0 q1 q2 z0 z1 z2 z3 f0 f1 f2 f3 z0' z1' z2' z3' f0' f1' f2' f3' e0' e1' e2' e3' g0' g1' g2' g3' y0' y1' y2' y3' y4' y5' q0' q1' q2'
          have h7 := h6.perm (p3 _ _ _ _ _)
          obtain ⟨y0, y1, y2, y3, y4, y5⟩ := box6 h7.skip.skip
          obtain ⟨q0, q1, q2⟩ := HG.out _ _ h7.skip.skip.skip
          obtain ⟨⟨z0, z1, z2, z3⟩, ⟨f0, f1, f2, f3⟩⟩ := box4 h7.skip
          obtain ⟨⟨e0, e1, e2, e3⟩, ⟨g0, g1, g2, g3⟩⟩ := box4 h7
          have h8 := sset1 (lv' := (.slice A7 l1.length c7)) h7
          obtain ⟨w5, hw5⟩ : ∃ w5, w6.setCell ⟨b2, 1, none⟩ (.slice A7 l1.length c7) = w5 := ⟨_, rfl⟩
          rw [hw5] at h8
          have H5 := Lib.hid h8
          go_wp2_with fail
          clear h6 h7 h8 hw5 h2 h3 hb2 z0 z1 z2 z3 f0 f1 f2 f3 y0 y1 y2 y3 y4 y5 q0 q1 q2 e0 e1 e2 e3 g0 g1 g2 g3
          have h5 := H5.out
          have hch := fun ws (hws : Own W (sBlk b2 (j : Int) (.slice A7 l1.length c7) x1 (.slice none 0 0) :: sBlk (b + 1) 0 (.slice none 0 0) 0 (.slice none 0 0) :: (chB b c.C c.S c.O d e c.key :: (b7 ++ m))) ws) => r1parts_spec hws HC.out ((((HW.out.more (m' := b7)).more (m' := [chB b c.C c.S c.O d e c.key])).more (m' := [sBlk (b + 1) 0 (.slice none 0 0) 0 (.slice none 0 0)])).more (m' := [sBlk b2 (j : Int) (.slice A7 l1.length c7) x1 (.slice none 0 0)])) x2 HX2.out
          have hpe : chain ofP (nextAt c g) c.S (c.S + 1) [] x2 = partsP c g x2 := rfl
          rw [hpe, HPP.out] at hch
          obtain ⟨y0, y1, y2, y3, y4, y5⟩ := box6 h5.skip.skip
          obtain ⟨q0, q1, q2⟩ := HG.out _ _ h5.skip.skip.skip
          obtain ⟨⟨z0, z1, z2, z3⟩, ⟨f0, f1, f2, f3⟩⟩ := box4 h5.skip
          obtain ⟨⟨e0, e1, e2, e3⟩, ⟨g0, g1, g2, g3⟩⟩ := box4 h5
          have HCH := Lib.hid hch
          clear hpe hch h5
          go_region_held3 (fun w' => w'.cell? ⟨b, 0, none⟩ = some (.int .i64 c.C) ∧ w'.cell? ⟨b, 1, none⟩ = some (.int .i64 c.S) ∧ w'.cell? ⟨b, 2, none⟩ = some (.int .i64 c.O) ∧ w'.cell? ⟨b, 3, none⟩ = some (.int .i64 d) ∧ w'.cell? ⟨b, 4, none⟩ = some (.int .i64 e) ∧ w'.cell? ⟨b, 5, none⟩ = some (.int .u64 c.key) ∧ w'.cell? ⟨B, o + p2, none⟩ = some (.int .u64 (x2 : Int))) (first | (refine ⟨?_, ?_, ?_, ?_, ?_, ?_, ?_⟩ <;> assumption) | go_keep)
            (first | (go_at_call 86; refine (HCH.out _ H5.out.drew).mono ?_; rintro r w6 ⟨v6, b6, rfl, K6, h6⟩; obtain ⟨A6, c6, hv6, -, -⟩ := K6.out.slice; subst hv6; have h7 := h6.perm (p3 _ _ _ _ _); obtain ⟨y0, y1, y2, y3, y4, y5⟩ := box6 h7.skip.skip; obtain ⟨q0, q1, q2⟩ := HG.out _ _ (h7.skip.skip.skip.dropL); obtain ⟨⟨z0, z1, z2, z3⟩, ⟨f0, f1, f2, f3⟩⟩ := box4 h7.skip; obtain ⟨⟨e0, e1, e2, e3⟩, ⟨g0, g1, g2, g3⟩⟩ := box4 h7))
          go_wp2_with fail
          have h8 := sset3 (pv' := .slice A6 l2.length c6) h7
          have h9 := sset_2 (s' := (j : Int)) (lv' := (.slice A7 l1.length c7)) (t' := (x1 : Int)) (pv' := .slice A6 l2.length c6) h8
          obtain ⟨⟨t0, t1, t2, t3⟩, -⟩ := box4 h9
          exact bodyPost_ret (v := .tuple #[.agg #[.int .i64 (j : Int), (.slice A7 l1.length c7), .int .u64 x1, .slice A6 l2.length c6], .int .i64 0]) (by simp [results, Try.f68, go_sem, t0, t1, t2, t3]) rfl ⟨(.slice A7 l1.length c7), b7, _, b6, rfl, KL.out, K6, (h9.skip.skip.skip).swap⟩
end
end Go.Proofs.Ytigakendeghoaaa.See
