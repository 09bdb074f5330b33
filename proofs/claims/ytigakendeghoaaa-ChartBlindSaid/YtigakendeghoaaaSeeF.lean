/-
  Contracts: slabs, one behind the other (reader.chain). No condition. (Printed by mkchain.py.)
-/
import Derived.Test.YtigakendeghoaaaSeeE
import Derived.Test.YtigakendeghoaaaMapInt
namespace Go.Proofs.Ytigakendeghoaaa.See
open Go.RowKit
open chartPlaces (Ok)
attribute [local go_sem ↓] Go.wp_at_zero Go.wp_at_succ
section
variable {W w : World} {M m : List (Nat × Obj)} {B o N k b ck n : Nat} {g : List Nat} {c : Ch} {d e : Int} {es : Array MapEntry} {f : Int → Option Int}
theorem run_mapAt (h : IM es n f) (hb : w.heap[b]? = some (.map es ck)) {k : Int} (hk : (Lit.int .i64 k).wf = true) :
    (Instr.lookup 118 (.map (some b)) (.int .i64 k) false).run Try.prog w = .ok (.int .i64 ((f k).getD 0)) w := by
  have hkey := keyOf_i64 hk
  have K := int_keyed'
  rcases K.find w hkey es.toList h.keysOk with ⟨h1, h2⟩ | ⟨j, e0, h1, h2, h3⟩
  · have hf := h.none_of h2
    simp [Instr.lookup, run_underlying Try.underlying118, MapKept.run_getObj_map hb, K.check w _ hkey, h1, zero_i64, Result.andThen, hf]
  · have hm := List.mem_of_getElem? h2
    obtain ⟨k', c, e1, e2, -⟩ := h.ints e0 hm
    have hf : f k = some c := (h.fits k c).2 ⟨e0, hm, h3, e2⟩
    simp [Instr.lookup, run_underlying Try.underlying118, MapKept.run_getObj_map hb, K.check w _ hkey, h1, Result.andThen, hf, e2]
theorem wpList_mapAt {ops : Array Oper} {rest : List Oper} {o : Oper} {a : Act} {Q : Exit → Act → World → Prop} (hg : o.guard = none) (m x : Operand) (hop : o.op = Op.lookup 118 m x false) {k : Int} (hm : a.eval m = .map (some b)) (hx : a.eval x = .int .i64 k)
    (h : IM es n f) (hb : w.heap[b]? = some (.map es ck)) (hk : (Lit.int .i64 k).wf = true)
    (hK : wpList Try.prog ops Q rest (a.put o.dst (.int .i64 ((f k).getD 0))) w) : wpList Try.prog ops Q (o :: rest) a w := by
  refine wpList_plain hg fun K' hK' => ?_
  unfold Oper.wp
  simp [execOp, hop, hm, hx, run_mapAt h hb hk, Result.andThen]
  exact hK' _ _ hK
/-- which slabs were seen -/
def seen (out : List Int) : Int → Option Int := fun s => if s ∈ out then some 1 else none
theorem seen_put (out : List Int) (s : Int) : fPut (seen out) s 1 = seen (out ++ [s]) := by
  funext j
  unfold fPut seen
  by_cases hj : j = s
  · subst hj; simp
  · by_cases ho : j ∈ out <;> simp [hj, ho]
theorem seen_nil : seen [] = fun _ => none := by
  funext j
  simp [seen]
theorem seen_yes {out : List Int} {s : Int} (h : s ∈ out) : (seen out s).getD 0 = 1 := by simp [seen, h]
theorem seen_no {out : List Int} {s : Int} (h : s ∉ out) : (seen out s).getD 0 = 0 := by simp [seen, h]
/-- what a word says of a slab -/
def OfPost (r : Option Int) (e : Ending) : Prop := match r with
  | some s => e = .returned (.tuple #[.int .i64 s, .bool true])
  | none => ∃ v : Int, e = .returned (.tuple #[.int .i64 v, .bool false])
def ofP (w : Nat) : Option Int := (partOf w).map (·.1)
set_option maxRecDepth 100000 in
theorem ofP_spec (x : Nat) (hx : x < 18446744073709551616) (w : World) : Calls Try.prog 82 #[.int .u64 x] w fun e w' => OfPost (ofP x) e ∧ w = w' := by
  have hp := fun w => partOf_spec x hx w
  unfold partV at hp
  unfold ofP
  clear hx
  cases hc : partOf x with
  | none =>
    rw [hc] at hp
    have HP := Lib.hid hp
    clear hp hc
    go_enter Try.func82, Try.ntmps82
    go_wp2_with (go_at_call 104; refine (HP.out _).mono ?_; rintro e w' ⟨rfl, rfl⟩)
    go_ret2
    exact ⟨⟨_, rfl⟩, rfl⟩
  | some q =>
    obtain ⟨s, n⟩ := q
    rw [hc] at hp
    have HP := Lib.hid hp
    clear hp hc
    go_enter Try.func82, Try.ntmps82
    go_wp2_with (go_at_call 104; refine (HP.out _).mono ?_; rintro e w' ⟨rfl, rfl⟩)
    go_ret2
    exact ⟨rfl, rfl⟩
theorem ofP_ge {w : Nat} {s : Int} (h : ofP w = some s) : -1 ≤ s ∧ s < 32 := by
  unfold ofP partOf at h
  split at h
  · simp at h; omega
  · split at h
    · simp at h; omega
    · cases h
theorem ofS_ge {w : Nat} {s : Int} (h : shelfOf w = some s) : -1 ≤ s ∧ s < 32 := by
  unfold shelfOf at h
  split at h
  · simp at h; omega
  · cases h
set_option maxRecDepth 100000 in
theorem ofS_spec (x : Nat) (hx : x < 18446744073709551616) (w : World) : Calls Try.prog 66 #[.int .u64 x] w fun e w' => OfPost (shelfOf x) e ∧ w = w' := by
  unfold shelfOf
  by_cases hc : x ≤ 32
  · rw [if_pos hc]
    have hci : decide ((x : Int) ≤ 32) = true := decide_eq_true (by omega)
    clear hx
    go_enter Try.func66, Try.ntmps66
    go_wp2_with fail
    go_ret2
    exact ⟨rfl, rfl⟩
  · rw [if_neg hc]
    have hci : decide ((x : Int) ≤ 32) = false := decide_eq_false (by omega)
    clear hx
    go_enter Try.func66, Try.ntmps66
    go_wp2_with fail
    go_ret2
    exact ⟨⟨_, rfl⟩, rfl⟩
/-- what chain answers -/
def ChPost (W : World) (m : List (Nat × Obj)) (r : Option (List Int)) (e : Ending) (w' : World) : Prop := match r with
  | some l => ∃ v bs, e = .returned (.tuple #[v, .bool true]) ∧ Hid (IntsOwn true v l bs) ∧ Own W (bs ++ m) w'
  | none => e = .returned (.tuple #[.slice none 0 0, .bool false]) ∧ Own W m w'
set_option maxRecDepth 100000 in
set_option maxHeartbeats 4000000 in
theorem rchain_p (h : Own W m w) (hc : COk c d e) (hw : WOk W m B o N k g c) (x0 : Nat) (hx0 : x0 < 18446744073709551616) :
    Calls Try.prog 65 #[rV B o N k c d e, .int .u64 x0, .func (.func 82) #[] #[]] w (ChPost W m (chain ofP (nextAt c g) c.S (c.S + 1) [] x0)) := by
  obtain ⟨n1, n2, n3, n4, n5, n6⟩ := hc.nums
  have h1 := (h.new (.cells #[.slice (some ⟨B, o, none⟩) N k, .int .i64 c.C, .int .i64 c.S, .int .i64 c.O, .int .i64 d, .int .i64 e, .int .u64 c.key] 84)).new (.map #[] 0)
  obtain ⟨b, hb⟩ : ∃ b, w.heap.size = b := ⟨_, rfl⟩
  simp only [World.size_alloc] at h1
  rw [hb] at h1
  have h1 : Own W ((b + 1, .map #[] 0) :: (rBlk b B o N k c d e :: m)) _ := h1
  obtain ⟨R, hR⟩ : ∃ R, chain ofP (nextAt c g) c.S (c.S + 1) [] x0 = R := ⟨_, rfl⟩
  have HR := Lib.hid hR
  have HC := Lib.hid hc
  have HW := Lib.hid hw
  have HX0 := Lib.hid hx0
  have him : IM #[] 0 (seen []) := by rw [seen_nil]; exact IM.nil
  have HIM := Lib.hid him
  rw [hR]
  clear hR hc hx0 him hw
  have hmm := fun w : World => run_makeMap (P := Try.prog) 118 w
  unfold rV
  go_enter Try.func65, Try.ntmps65
  go_wp2_with fail
  clear hmm
  obtain ⟨wa, hwa⟩ : ∃ wa, (w.alloc (.cells #[.slice (some ⟨B, o, none⟩) N k, .int .i64 c.C, .int .i64 c.S, .int .i64 c.O, .int .i64 d, .int .i64 e, .int .u64 c.key] 84)).alloc (.map #[] 0) = wa := ⟨_, rfl⟩
  rw [hwa] at h1 ⊢
  have H1 := Lib.hid h1
  clear h1 hwa h hb
  go_loopw [1, 6] (fun xv ov wr => ∃ (x : Nat) (out : List Int) (bs : List (Nat × Obj)) (es : Array MapEntry) (ck : Nat), xv = .int .u64 x ∧ Hid (x < 18446744073709551616) ∧ Hid (out.Nodup ∧ ∀ y ∈ out, 0 ≤ y ∧ y < c.S) ∧ Hid (chain ofP (nextAt c g) c.S (c.S + 1 - out.length) out x = R) ∧ Hid (IntsOwn true ov out bs) ∧ Hid (IM es out.length (seen out)) ∧ Own W ((b + 1, .map es ck) :: (bs ++ (rBlk b B o N k c d e :: m))) wr) (fun _ ov _ => 33 - slLen ov)
  case atStart => exact ⟨x0, [], [], #[], 0, rfl, HX0, ⟨List.nodup_nil, fun x hx => (by simp at hx)⟩, HR, SlO.nil _ _ _, HIM, H1.out⟩
  case round =>
    clear H1 HR HX0 HIM
    obtain ⟨x, out, bs, es, ck, rfl, HX, HND, HWK, HO, HIM, hr⟩ := hrel
    obtain ⟨A8, c8, hv, -, -⟩ := HO.out.slice
    subst hv
    have hfew := few HND.out.1 HND.out.2
    obtain ⟨z, hz⟩ : ∃ z, out.length = z := ⟨_, rfl⟩
    have HZ := Lib.hid hz
    rw [hz] at hfew
    have hO2 : IntsOwn true (.slice A8 z c8) out bs := by have := HO.out; rw [hz] at this; exact this
    have HO2 := Lib.hid hO2
    have hof := fun w => ofP_spec x HX.out w
    have hk := HWK.out
    rw [hz, show c.S + 1 - z = (c.S - z) + 1 by omega] at hk
    unfold chain at hk
    rw [hz]
    have HRW := Lib.hid hr
    have hrb := (hr.skip.perm List.perm_middle)
    obtain ⟨y0, y1, y2, y3, y4, y5, y6⟩ := box7 hrb
    clear hO2 HWK hz
    cases hs : ofP x with
    | none =>
      rw [hs] at hof hk
      have HOF := Lib.hid hof
      have HK2 := Lib.hid hk
      clear hof hk hs hrb
      go_wp2_with (go_at_call 82; refine (HOF.out _).mono ?_; rintro e w5 ⟨⟨v5, rfl⟩, rfl⟩)
      go_ret2
      rw [← HK2.out]
      exact ⟨rfl, hr.skip.dropL.skip⟩
    | some s =>
      rw [hs] at hof hk
      simp only at hk
      have HOF := Lib.hid hof
      obtain ⟨s0, s1⟩ := ofP_ge hs
      clear hof hs
      by_cases hS : (c.S : Int) ≤ s
      · rw [if_pos (.inl hS)] at hk
        have HK2 := Lib.hid hk
        clear hk hrb
        go_wp2_with (go_at_call 82; refine (HOF.out _).mono ?_; rintro e w5 ⟨rfl, rfl⟩)
        go_ret2
        rw [← HK2.out]
        exact ⟨rfl, hr.skip.dropL.skip⟩
      · have hSn : ¬ (c.S : Int) ≤ s := hS
        have hwf : (Lit.int .i64 s).wf = true := by simp [Lit.wf, IntKind.min, IntKind.max, IntKind.signed, IntKind.bits]; omega
        have HWF := Lib.hid hwf
        have hgm := hr.get List.mem_cons_self
        clear hwf
        by_cases hin : s ∈ out
        · rw [if_pos (.inr hin)] at hk
          have HK2 := Lib.hid hk
          have hg1 := seen_yes hin
          clear hk hrb
          go_wp2_with (first | (go_at_call 82; refine (HOF.out _).mono ?_; rintro e w5 ⟨rfl, rfl⟩) | (at_lookup; refine wpList_mapAt rfl _ _ rfl rfl rfl HIM.out hgm HWF.out ?_; rw [hg1]))
          go_ret2
          rw [← HK2.out]
          exact ⟨rfl, hr.skip.dropL.skip⟩
        · rw [if_neg (by intro hh; exact hh.elim hS hin)] at hk
          have hg1 := seen_no hin
          by_cases hm1 : s = -1
          · rw [if_pos hm1] at hk
            subst hm1
            have HK2 := Lib.hid hk
            clear hk hrb
            go_wp2_with (first | (go_at_call 82; refine (HOF.out _).mono ?_; rintro e w5 ⟨rfl, rfl⟩) | (at_lookup; refine wpList_mapAt rfl _ _ rfl rfl rfl HIM.out hgm HWF.out ?_; rw [hg1]))
            go_ret2
            rw [← HK2.out]
            exact ⟨_, bs, rfl, HO2, hr.skip.drop1⟩
          · rw [if_neg hm1] at hk
            have hsb : (s == -1) = false := beq_eq_false_iff_ne.2 hm1
            obtain ⟨j, rfl⟩ : ∃ j : Nat, s = j := ⟨s.toNat, by omega⟩
            have hjS : j < c.S := by omega
            have hji : 0 ≤ (j : Int) ∧ (j : Int) < (c.S : Int) := by omega
            have HJ := Lib.hid hji
            have hN := HW.out.n
            unfold Ch.words at hN
            have hpN : 4 * c.C + 4 + 4 * j + 2 < N := by omega
            obtain ⟨p, hp⟩ : ∃ p : Nat, 4 * c.C + 4 + 4 * j + 2 = p := ⟨_, rfl⟩
            have hpi : 4 * (c.C : Int) + 4 + 4 * (j : Int) + 2 = (p : Int) := by omega
            have HPI := Lib.hid hpi
            rw [hp] at hpN
            have hp0 : (0 : Int) ≤ (p : Int) := by omega
            have hp1 : (p : Int) < (N : Int) := by omega
            obtain ⟨x', hx'⟩ : ∃ x', g[p]? = some x' := ⟨_, List.getElem?_eq_getElem (by rw [HW.out.len]; exact hpN)⟩
            have hna : nextAt c g (j : Int) = x' := by
              unfold nextAt at_
              rw [Int.toNat_natCast, hp, List.getD_eq_getElem?_getD, hx']
              rfl
            rw [hna] at hk
            have HX' : Hid (x' < 18446744073709551616) := HW.out.w64 x' (List.mem_of_getElem? hx')
            have HXP := Lib.hid hx'
            have hlt := few_lt HND.out.1 HND.out.2 hji.1 hji.2 hin
            rw [HZ.out] at hlt
            have HND2 : Hid ((out ++ [(j : Int)]).Nodup ∧ ∀ y ∈ out ++ [(j : Int)], 0 ≤ y ∧ y < c.S) := by
              refine ⟨List.nodup_append.2 ⟨HND.out.1, by simp, fun a ha b hb he => ?_⟩, fun y hy => ?_⟩
              · simp at hb
                subst hb
                subst he
                exact hin ha
              · rcases List.mem_append.1 hy with hy | hy
                · exact HND.out.2 y hy
                · simp at hy
                  subst hy
                  exact hji
            have HK2 : Hid (chain ofP (nextAt c g) c.S (c.S + 1 - (out ++ [(j : Int)]).length) (out ++ [(j : Int)]) x' = R) := by
              show _ = _
              rw [List.length_append, HZ.out, List.length_singleton, show c.S + 1 - (z + 1) = c.S - z by omega]
              exact hk
            have HLEN : Hid (out.length + [(j : Int)].length ≤ 60000) := by
              show _ ≤ _
              rw [HZ.out]
              simp
              omega
            have HLM : Hid (out.length < maxLen) := by
              show _ < _
              rw [HZ.out]
              unfold maxLen
              omega
            clear hk hN hp hpi hx' hna hrb
            go_wp2_with (first | (go_at_call 82; refine (HOF.out _).mono ?_; rintro e w5 ⟨rfl, rfl⟩) | (at_lookup; refine wpList_mapAt rfl _ _ rfl rfl rfl HIM.out hgm HWF.out ?_; rw [hg1]) |
              (at_mapUpdate; refine wpList_mapPut rfl _ _ _ rfl rfl rfl rfl HIM.out HRW.out HLM.out HWF.out ?_; intro es' ck' w' k1 k2; rw [seen_put] at k1; have K1 := Lib.hid k1; have H2 := Lib.hid ((k2.perm List.perm_middle.symm).alloc (.cells #[.int .i64 (j : Int)] 3)); have HSRC := Lib.hid (src_one w' (j : Int)); clear k1 k2 y0 y1 y2 y3 y4 y5 y6 hgm) |
              (at_builtin; refine wpList_app_ints rfl _ _ rfl rfl rfl HO2.out H2.out HSRC.out HLEN.out ?_; intro v' w' bs' q1 q2 q3; have Q1 := Lib.hid q1; have Q2 := Lib.hid q2; obtain ⟨y0, y1, y2, y3, y4, y5, y6⟩ := box7 q2.dropL.skip; have cx := HW.out.rd _ q2.dropL.skip.skip p x' HXP.out; clear q1 q2 q3))
            go_region_held3 (fun w' => w'.cell? ⟨b, 0, none⟩ = some (.slice (some ⟨B, o, none⟩) N k) ∧ w'.cell? ⟨b, 1, none⟩ = some (.int .i64 c.C) ∧ w'.cell? ⟨b, 2, none⟩ = some (.int .i64 c.S) ∧ w'.cell? ⟨b, 3, none⟩ = some (.int .i64 c.O) ∧ w'.cell? ⟨b, 4, none⟩ = some (.int .i64 d) ∧ w'.cell? ⟨b, 5, none⟩ = some (.int .i64 e) ∧ w'.cell? ⟨b, 6, none⟩ = some (.int .u64 c.key) ∧ w'.cell? ⟨B, o + p, none⟩ = some (.int .u64 (x' : Int))) (first | (refine ⟨?_, ?_, ?_, ?_, ?_, ?_, ?_, ?_⟩ <;> assumption) | go_keep)
              (first | (go_at_call 19; refine (Apart.next_ok HC.out.ok HJ.out Q2.out.drew).mono ?_; rintro r w6 ⟨rfl, h6⟩; rw [HPI.out]; obtain ⟨y0, y1, y2, y3, y4, y5, y6⟩ := box7 h6.dropL.skip; have cx := HW.out.rd _ h6.dropL.skip.skip p x' HXP.out))
            go_wp2_with fail
            obtain ⟨A9, c9, hv9, -, -⟩ := Q1.out.slice
            rw [List.length_append, HZ.out, List.length_singleton] at hv9
            refine ⟨⟨x', _, bs', es', ck', rfl, HX', HND2, HK2, Q1, ?_, ?_⟩, ?_⟩
            · show IM es' (out ++ [(j : Int)]).length _
              rw [List.length_append, List.length_singleton]
              exact K1.out
            · exact h6.perm List.perm_middle
            · rw [hv9]
              simp [slLen]
              omega
set_option maxRecDepth 100000 in
set_option maxHeartbeats 4000000 in
theorem rchain_s (h : Own W m w) (hc : COk c d e) (hw : WOk W m B o N k g c) (x0 : Nat) (hx0 : x0 < 18446744073709551616) :
    Calls Try.prog 65 #[rV B o N k c d e, .int .u64 x0, .func (.func 66) #[] #[]] w (ChPost W m (chain shelfOf (nextAt c g) c.S (c.S + 1) [] x0)) := by
  obtain ⟨n1, n2, n3, n4, n5, n6⟩ := hc.nums
  have h1 := (h.new (.cells #[.slice (some ⟨B, o, none⟩) N k, .int .i64 c.C, .int .i64 c.S, .int .i64 c.O, .int .i64 d, .int .i64 e, .int .u64 c.key] 84)).new (.map #[] 0)
  obtain ⟨b, hb⟩ : ∃ b, w.heap.size = b := ⟨_, rfl⟩
  simp only [World.size_alloc] at h1
  rw [hb] at h1
  have h1 : Own W ((b + 1, .map #[] 0) :: (rBlk b B o N k c d e :: m)) _ := h1
  obtain ⟨R, hR⟩ : ∃ R, chain shelfOf (nextAt c g) c.S (c.S + 1) [] x0 = R := ⟨_, rfl⟩
  have HR := Lib.hid hR
  have HC := Lib.hid hc
  have HW := Lib.hid hw
  have HX0 := Lib.hid hx0
  have him : IM #[] 0 (seen []) := by rw [seen_nil]; exact IM.nil
  have HIM := Lib.hid him
  rw [hR]
  clear hR hc hx0 him hw
  have hmm := fun w : World => run_makeMap (P := Try.prog) 118 w
  unfold rV
  go_enter Try.func65, Try.ntmps65
  go_wp2_with fail
  clear hmm
  obtain ⟨wa, hwa⟩ : ∃ wa, (w.alloc (.cells #[.slice (some ⟨B, o, none⟩) N k, .int .i64 c.C, .int .i64 c.S, .int .i64 c.O, .int .i64 d, .int .i64 e, .int .u64 c.key] 84)).alloc (.map #[] 0) = wa := ⟨_, rfl⟩
  rw [hwa] at h1 ⊢
  have H1 := Lib.hid h1
  clear h1 hwa h hb
  go_loopw [1, 6] (fun xv ov wr => ∃ (x : Nat) (out : List Int) (bs : List (Nat × Obj)) (es : Array MapEntry) (ck : Nat), xv = .int .u64 x ∧ Hid (x < 18446744073709551616) ∧ Hid (out.Nodup ∧ ∀ y ∈ out, 0 ≤ y ∧ y < c.S) ∧ Hid (chain shelfOf (nextAt c g) c.S (c.S + 1 - out.length) out x = R) ∧ Hid (IntsOwn true ov out bs) ∧ Hid (IM es out.length (seen out)) ∧ Own W ((b + 1, .map es ck) :: (bs ++ (rBlk b B o N k c d e :: m))) wr) (fun _ ov _ => 33 - slLen ov)
  case atStart => exact ⟨x0, [], [], #[], 0, rfl, HX0, ⟨List.nodup_nil, fun x hx => (by simp at hx)⟩, HR, SlO.nil _ _ _, HIM, H1.out⟩
  case round =>
    clear H1 HR HX0 HIM
    obtain ⟨x, out, bs, es, ck, rfl, HX, HND, HWK, HO, HIM, hr⟩ := hrel
    obtain ⟨A8, c8, hv, -, -⟩ := HO.out.slice
    subst hv
    have hfew := few HND.out.1 HND.out.2
    obtain ⟨z, hz⟩ : ∃ z, out.length = z := ⟨_, rfl⟩
    have HZ := Lib.hid hz
    rw [hz] at hfew
    have hO2 : IntsOwn true (.slice A8 z c8) out bs := by have := HO.out; rw [hz] at this; exact this
    have HO2 := Lib.hid hO2
    have hof := fun w => ofS_spec x HX.out w
    have hk := HWK.out
    rw [hz, show c.S + 1 - z = (c.S - z) + 1 by omega] at hk
    unfold chain at hk
    rw [hz]
    have HRW := Lib.hid hr
    have hrb := (hr.skip.perm List.perm_middle)
    obtain ⟨y0, y1, y2, y3, y4, y5, y6⟩ := box7 hrb
    clear hO2 HWK hz
    cases hs : shelfOf x with
    | none =>
      rw [hs] at hof hk
      have HOF := Lib.hid hof
      have HK2 := Lib.hid hk
      clear hof hk hs hrb
      go_wp2_with (go_at_call 66; refine (HOF.out _).mono ?_; rintro e w5 ⟨⟨v5, rfl⟩, rfl⟩)
      go_ret2
      rw [← HK2.out]
      exact ⟨rfl, hr.skip.dropL.skip⟩
    | some s =>
      rw [hs] at hof hk
      simp only at hk
      have HOF := Lib.hid hof
      obtain ⟨s0, s1⟩ := ofS_ge hs
      clear hof hs
      by_cases hS : (c.S : Int) ≤ s
      · rw [if_pos (.inl hS)] at hk
        have HK2 := Lib.hid hk
        clear hk hrb
        go_wp2_with (go_at_call 66; refine (HOF.out _).mono ?_; rintro e w5 ⟨rfl, rfl⟩)
        go_ret2
        rw [← HK2.out]
        exact ⟨rfl, hr.skip.dropL.skip⟩
      · have hSn : ¬ (c.S : Int) ≤ s := hS
        have hwf : (Lit.int .i64 s).wf = true := by simp [Lit.wf, IntKind.min, IntKind.max, IntKind.signed, IntKind.bits]; omega
        have HWF := Lib.hid hwf
        have hgm := hr.get List.mem_cons_self
        clear hwf
        by_cases hin : s ∈ out
        · rw [if_pos (.inr hin)] at hk
          have HK2 := Lib.hid hk
          have hg1 := seen_yes hin
          clear hk hrb
          go_wp2_with (first | (go_at_call 66; refine (HOF.out _).mono ?_; rintro e w5 ⟨rfl, rfl⟩) | (at_lookup; refine wpList_mapAt rfl _ _ rfl rfl rfl HIM.out hgm HWF.out ?_; rw [hg1]))
          go_ret2
          rw [← HK2.out]
          exact ⟨rfl, hr.skip.dropL.skip⟩
        · rw [if_neg (by intro hh; exact hh.elim hS hin)] at hk
          have hg1 := seen_no hin
          by_cases hm1 : s = -1
          · rw [if_pos hm1] at hk
            subst hm1
            have HK2 := Lib.hid hk
            clear hk hrb
            go_wp2_with (first | (go_at_call 66; refine (HOF.out _).mono ?_; rintro e w5 ⟨rfl, rfl⟩) | (at_lookup; refine wpList_mapAt rfl _ _ rfl rfl rfl HIM.out hgm HWF.out ?_; rw [hg1]))
            go_ret2
            rw [← HK2.out]
            exact ⟨_, bs, rfl, HO2, hr.skip.drop1⟩
          · rw [if_neg hm1] at hk
            have hsb : (s == -1) = false := beq_eq_false_iff_ne.2 hm1
            obtain ⟨j, rfl⟩ : ∃ j : Nat, s = j := ⟨s.toNat, by omega⟩
            have hjS : j < c.S := by omega
            have hji : 0 ≤ (j : Int) ∧ (j : Int) < (c.S : Int) := by omega
            have HJ := Lib.hid hji
            have hN := HW.out.n
            unfold Ch.words at hN
            have hpN : 4 * c.C + 4 + 4 * j + 2 < N := by omega
            obtain ⟨p, hp⟩ : ∃ p : Nat, 4 * c.C + 4 + 4 * j + 2 = p := ⟨_, rfl⟩
            have hpi : 4 * (c.C : Int) + 4 + 4 * (j : Int) + 2 = (p : Int) := by omega
            have HPI := Lib.hid hpi
            rw [hp] at hpN
            have hp0 : (0 : Int) ≤ (p : Int) := by omega
            have hp1 : (p : Int) < (N : Int) := by omega
            obtain ⟨x', hx'⟩ : ∃ x', g[p]? = some x' := ⟨_, List.getElem?_eq_getElem (by rw [HW.out.len]; exact hpN)⟩
            have hna : nextAt c g (j : Int) = x' := by
              unfold nextAt at_
              rw [Int.toNat_natCast, hp, List.getD_eq_getElem?_getD, hx']
              rfl
            rw [hna] at hk
            have HX' : Hid (x' < 18446744073709551616) := HW.out.w64 x' (List.mem_of_getElem? hx')
            have HXP := Lib.hid hx'
            have hlt := few_lt HND.out.1 HND.out.2 hji.1 hji.2 hin
            rw [HZ.out] at hlt
            have HND2 : Hid ((out ++ [(j : Int)]).Nodup ∧ ∀ y ∈ out ++ [(j : Int)], 0 ≤ y ∧ y < c.S) := by
              refine ⟨List.nodup_append.2 ⟨HND.out.1, by simp, fun a ha b hb he => ?_⟩, fun y hy => ?_⟩
              · simp at hb
                subst hb
                subst he
                exact hin ha
              · rcases List.mem_append.1 hy with hy | hy
                · exact HND.out.2 y hy
                · simp at hy
                  subst hy
                  exact hji
            have HK2 : Hid (chain shelfOf (nextAt c g) c.S (c.S + 1 - (out ++ [(j : Int)]).length) (out ++ [(j : Int)]) x' = R) := by
              show _ = _
              rw [List.length_append, HZ.out, List.length_singleton, show c.S + 1 - (z + 1) = c.S - z by omega]
              exact hk
            have HLEN : Hid (out.length + [(j : Int)].length ≤ 60000) := by
              show _ ≤ _
              rw [HZ.out]
              simp
              omega
            have HLM : Hid (out.length < maxLen) := by
              show _ < _
              rw [HZ.out]
              unfold maxLen
              omega
            clear hk hN hp hpi hx' hna hrb
            go_wp2_with (first | (go_at_call 66; refine (HOF.out _).mono ?_; rintro e w5 ⟨rfl, rfl⟩) | (at_lookup; refine wpList_mapAt rfl _ _ rfl rfl rfl HIM.out hgm HWF.out ?_; rw [hg1]) |
              (at_mapUpdate; refine wpList_mapPut rfl _ _ _ rfl rfl rfl rfl HIM.out HRW.out HLM.out HWF.out ?_; intro es' ck' w' k1 k2; rw [seen_put] at k1; have K1 := Lib.hid k1; have H2 := Lib.hid ((k2.perm List.perm_middle.symm).alloc (.cells #[.int .i64 (j : Int)] 3)); have HSRC := Lib.hid (src_one w' (j : Int)); clear k1 k2 y0 y1 y2 y3 y4 y5 y6 hgm) |
              (at_builtin; refine wpList_app_ints rfl _ _ rfl rfl rfl HO2.out H2.out HSRC.out HLEN.out ?_; intro v' w' bs' q1 q2 q3; have Q1 := Lib.hid q1; have Q2 := Lib.hid q2; obtain ⟨y0, y1, y2, y3, y4, y5, y6⟩ := box7 q2.dropL.skip; have cx := HW.out.rd _ q2.dropL.skip.skip p x' HXP.out; clear q1 q2 q3))
            go_region_held3 (fun w' => w'.cell? ⟨b, 0, none⟩ = some (.slice (some ⟨B, o, none⟩) N k) ∧ w'.cell? ⟨b, 1, none⟩ = some (.int .i64 c.C) ∧ w'.cell? ⟨b, 2, none⟩ = some (.int .i64 c.S) ∧ w'.cell? ⟨b, 3, none⟩ = some (.int .i64 c.O) ∧ w'.cell? ⟨b, 4, none⟩ = some (.int .i64 d) ∧ w'.cell? ⟨b, 5, none⟩ = some (.int .i64 e) ∧ w'.cell? ⟨b, 6, none⟩ = some (.int .u64 c.key) ∧ w'.cell? ⟨B, o + p, none⟩ = some (.int .u64 (x' : Int))) (first | (refine ⟨?_, ?_, ?_, ?_, ?_, ?_, ?_, ?_⟩ <;> assumption) | go_keep)
              (first | (go_at_call 19; refine (Apart.next_ok HC.out.ok HJ.out Q2.out.drew).mono ?_; rintro r w6 ⟨rfl, h6⟩; rw [HPI.out]; obtain ⟨y0, y1, y2, y3, y4, y5, y6⟩ := box7 h6.dropL.skip; have cx := HW.out.rd _ h6.dropL.skip.skip p x' HXP.out))
            go_wp2_with fail
            obtain ⟨A9, c9, hv9, -, -⟩ := Q1.out.slice
            rw [List.length_append, HZ.out, List.length_singleton] at hv9
            refine ⟨⟨x', _, bs', es', ck', rfl, HX', HND2, HK2, Q1, ?_, ?_⟩, ?_⟩
            · show IM es' (out ++ [(j : Int)]).length _
              rw [List.length_append, List.length_singleton]
              exact K1.out
            · exact h6.perm List.perm_middle
            · rw [hv9]
              simp [slLen]
              omega
end
end Go.Proofs.Ytigakendeghoaaa.See
