/-
  Texts of this claim, joined. No condition.
-/
import Derived.Test.YtljcndcmdphmgaaZm8
/-
  Zones: drains. No condition.
-/
namespace Go.Proofs.Ytljcndcmdphmgaa
open Go.RowKit
attribute [local go_sem ↓] Go.wp_at_zero Go.wp_at_succ
/-- lists of which the first are taken -/
def dTo (X : List (List Int)) (c : Nat) : List (List Int) := List.replicate c [] ++ X.drop c
theorem dTo_zero (X : List (List Int)) : dTo X 0 = X := rfl
theorem dTo_all (X : List (List Int)) : dTo X X.length = X.map fun _ => [] := by
  unfold dTo
  rw [List.drop_length, List.append_nil]
  exact (List.eq_replicate_iff.2 ⟨by simp, fun b hb => by
    obtain ⟨_, _, rfl⟩ := List.mem_map.1 hb
    rfl⟩).symm
theorem dTo_len {X : List (List Int)} {c : Nat} (h : c ≤ X.length) : (dTo X c).length = X.length := by simp [dTo]; omega
theorem dTo_step {X : List (List Int)} {c : Nat} {xs : List Int} (h : X[c]? = some xs) : nDrain (dTo X c) (c : Int) = (xs, dTo X (c + 1)) ∧ (X.take (c + 1)).flatten = (X.take c).flatten ++ xs := by
  obtain ⟨hc, rfl⟩ := List.getElem?_eq_some_iff.1 h
  have hx : xAt (dTo X c) (c : Int) = some X[c] := by
    unfold xAt dTo
    rw [if_pos (by omega), Int.toNat_natCast, List.getElem?_append_right (by simp)]
    simp [List.getElem?_eq_getElem hc]
  refine ⟨?_, ?_⟩
  · unfold nDrain
    rw [hx, Int.toNat_natCast]
    have e : (dTo X c).set c [] = dTo X (c + 1) := by
      unfold dTo
      rw [List.set_append_right _ _ (by simp), List.length_replicate, Nat.sub_self, List.drop_eq_getElem_cons hc, List.set_cons_zero, List.replicate_succ']
      simp
    rw [e]
  · rw [List.take_succ_eq_append_getElem hc, List.flatten_append, List.flatten_cons, List.flatten_nil, List.append_nil]
theorem dTo_mem {X : List (List Int)} {c : Nat} {xs : List Int} (h : xs ∈ dTo X (c + 1)) : xs = [] ∨ xs ∈ dTo X c := by
  unfold dTo at h ⊢
  rcases List.mem_append.1 h with h | h
  · exact .inl (List.eq_of_mem_replicate h)
  · exact .inr (List.mem_append_right _ (List.drop_subset_drop_left X (Nat.le_succ c) h))
theorem dTo_xb {X : List (List Int)} {c : Nat} (h : ∀ xs ∈ dTo X c, ∀ p ∈ xs, 0 ≤ p ∧ p < 1024) : ∀ xs ∈ dTo X (c + 1), ∀ p ∈ xs, 0 ≤ p ∧ p < 1024 := by
  intro xs hx p hp
  rcases dTo_mem hx with rfl | hx
  · cases hp
  · exact h xs hx p hp
/-- is a page near? -/
def zSome (X : List (List Int)) : Bool := decide (0 < X.flatten.length)
section
variable {W w : World} {m zs : List (Nat × Obj)} {zb : Nat} {L : List Pg} {X : List (List Int)} {f : Int → Option Int} {n : Nat}
set_option maxRecDepth 100000 in
set_option maxHeartbeats 4000000 in
theorem drains_spec (h : Own W (zs ++ m) w) (hz : ZO zb L X f n zs) :
    Calls Try.prog 84 #[.pointer (some ⟨zb, 0, none⟩)] w fun e w' => ∃ zs', e = .returned (.bool (zSome X)) ∧ ZO zb (X.flatten.foldl freeT L) (X.map fun _ => []) f n zs' ∧ Own W (zs' ++ m) w' := by
  obtain ⟨C, hC⟩ : ∃ C, X.length = C := ⟨_, rfl⟩
  have hX8 : C ≤ 8 ∧ X.length = C := by
    obtain ⟨pb, nb, nl, mb, bl, Ln, es, ck, hi⟩ := id hz
    have h1 := hi.nr.1.1
    have h2 := hi.nr.2
    rw [← h2, List.length_map] at hC
    rw [← h2, List.length_map]
    omega
  have hcell : w.cell? ⟨zb, 2, none⟩ = some (.int .i64 C) := by
    obtain ⟨pb, nb, nl, mb, bl, Ln, es, ck, hi⟩ := id hz
    rw [hi.eq] at h
    rw [← hC]
    exact (zcells h).2.2.1
  have HZ : Hid (ZO zb ((X.take 0).flatten.foldl freeT L) (dTo X 0) f n zs) := hz
  have HC := Lib.hid hC
  obtain ⟨h8, -⟩ := hX8
  clear hz hC
  go_enter Try.func84, Try.ntmps84
  go_wp2_with fail
  go_loopw [2, 9] (fun sv iv wr => ∃ (c : Nat) (b : Bool) (zs : List (Nat × Obj)), iv = .int .i64 c ∧ c ≤ C ∧ sv = .bool b ∧ Hid (b = decide (0 < (X.take c).flatten.length)) ∧ Hid (ZO zb ((X.take c).flatten.foldl freeT L) (dTo X c) f n zs) ∧ Own W (zs ++ m) wr) (fun _ iv _ => C - (intOf iv).toNat)
  case atStart => exact ⟨0, false, zs, rfl, by omega, rfl, by simp [Hid], HZ, h⟩
  case round =>
    clear HZ h hcell
    obtain ⟨c, b, zs, rfl, hc, rfl, HS, HZ, hr⟩ := hrel
    by_cases hlt : c < C
    · have hlti : (c : Int) < C := by omega
      obtain ⟨xs, hx⟩ : ∃ xs, X[c]? = some xs := ⟨_, List.getElem?_eq_getElem (by have := HC.out; omega)⟩
      obtain ⟨hd, hflat⟩ := dTo_step hx
      obtain ⟨pb, nb, nl, mb, bl, Ln, es, ck, hi⟩ := HZ.out
      have hrx := hr
      rw [hi.eq] at hrx
      obtain ⟨y0, y1, y2, y3, y4⟩ := zcells hrx
      have hnr := hrx.perm (z_near _ _ _ _ _)
      have hdr := ndrain_spec hnr hi.nr (c : Int)
      unfold NDrainPost at hdr
      rw [hd] at hdr
      have HDR := Lib.hid hdr
      have HI := Lib.hid hi
      have HFL := Lib.hid hflat
      clear hd hflat hx hdr hrx hnr hi
      go_wp2_with fail
      refine HDR.out.mono ?_
      rintro e w1 ⟨v1, bs1, L1, rfl, o1, ok1, h1⟩
      obtain ⟨A1, c1, rfl, -, -⟩ := o1.slice
      obtain ⟨y0, y1, y2, y3, y4⟩ := zcells' h1 (List.mem_append_right _ (List.mem_append_right _ List.mem_cons_self))
      have O1 := Lib.hid o1
      have OK1 := Lib.hid ok1
      have h1' := h1.perm (List.Perm.append_left bs1 ((z_near _ _ _ _ _).symm.trans (z_bud _ _ _ _ _)))
      obtain ⟨bT, hbT⟩ := HI.out.tab
      have hea := each_spec h1' O1.out HI.out.bud hbT HI.out.l1 HI.out.l2
      have HEA := Lib.hid hea
      obtain ⟨z, hz⟩ : ∃ z, xs.length = z := ⟨_, rfl⟩
      have HZL := Lib.hid hz
      have hsome : Hid ((b || decide (0 < z)) = decide (0 < (X.take (c + 1)).flatten.length)) := by
        show (b || decide (0 < z)) = _
        rw [HS.out, HFL.out, List.length_append, hz]
        by_cases h1 : 0 < (X.take c).flatten.length <;> by_cases h2 : 0 < z <;> simp [h2] <;> omega
      rw [hz] at HEA ⊢
      clear o1 ok1 h1 h1' hea hz hbT
      have fin : ∀ (bl2 : List (Nat × Obj)) (w2 : World), BdO pb (xs.foldl freeT ((X.take c).flatten.foldl freeT L)) bl2 → Own W (bs1 ++ (bl2 ++ (zBlk zb pb nb mb (dTo X c).length ((X.take c).flatten.foldl freeT L).length :: (mb, .map es ck) :: (nrBlocks 132 nb nl 6 L1 ++ m)))) w2 →
          ∃ zs2, Hid (ZO zb ((X.take (c + 1)).flatten.foldl freeT L) (dTo X (c + 1)) f n zs2) ∧ Own W (zs2 ++ m) w2 := by
        intro bl2 w2 hb2 h2
        obtain ⟨bT, hbT⟩ := HI.out.tab
        obtain ⟨ht, hl⟩ := backs_tab xs hbT
        have e1 : (X.take (c + 1)).flatten.foldl freeT L = xs.foldl freeT ((X.take c).flatten.foldl freeT L) := by rw [HFL.out, List.foldl_append]
        have hxl : (dTo X (c + 1)).length = (dTo X c).length := by
          rw [dTo_len (by have := HC.out; omega), dTo_len (by have := HC.out; omega)]
        refine ⟨_, ⟨pb, nb, nl, mb, bl2, L1, es, ck, ⟨by rw [e1]; exact hb2, OK1.out, HI.out.im, by rw [e1]; exact ht, by rw [e1, hl]; exact HI.out.l1, by rw [e1, hl]; exact HI.out.l2, by rw [hxl]; exact HI.out.x1, dTo_xb HI.out.xb, rfl⟩⟩, ?_⟩
        rw [e1, hl, hxl]
        exact (h2.dropL).perm (z_bud _ _ _ _ _).symm
      have FIN := Lib.hid fin
      clear fin
      cases b with
      | true =>
        go_wp2_with fail
        refine HEA.out.mono ?_
        rintro e w2 ⟨bl2, rfl, hb2, h2⟩
        obtain ⟨zs2, HZ2, h3⟩ := FIN.out bl2 w2 hb2 h2
        clear hb2
        go_wp2_with fail
        refine ⟨⟨c + 1, true, zs2, by go_num, by omega, rfl, ?_, HZ2, h3⟩, by simp [intOf]; omega⟩
        show true = _
        rw [← hsome.out, Bool.true_or]
      | false =>
        have hs2 := hsome.out
        rw [Bool.false_or] at hs2
        by_cases hz0 : 0 < z
        · rw [decide_eq_true hz0] at hs2
          have HS2 := Lib.hid hs2
          have hzi : (0 : Int) < (z : Int) := by omega
          clear hs2
          go_wp2_with fail
          refine HEA.out.mono ?_
          rintro e w2 ⟨bl2, rfl, hb2, h2⟩
          obtain ⟨zs2, HZ2, h3⟩ := FIN.out bl2 w2 hb2 h2
          clear hb2
          go_wp2_with fail
          exact ⟨⟨c + 1, true, zs2, by go_num, by omega, rfl, HS2, HZ2, h3⟩, by simp [intOf]; omega⟩
        · rw [decide_eq_false hz0] at hs2
          have HS2 := Lib.hid hs2
          have hzi : ¬ (0 : Int) < (z : Int) := by omega
          clear hs2
          go_wp2_with fail
          refine HEA.out.mono ?_
          rintro e w2 ⟨bl2, rfl, hb2, h2⟩
          obtain ⟨zs2, HZ2, h3⟩ := FIN.out bl2 w2 hb2 h2
          clear hb2
          go_wp2_with fail
          exact ⟨⟨c + 1, false, zs2, by go_num, by omega, rfl, HS2, HZ2, h3⟩, by simp [intOf]; omega⟩
    · obtain rfl : c = C := by omega
      have hlti : ¬ (c : Int) < c := by omega
      have hs := HS.out
      have hz := HZ.out
      rw [← HC.out, List.take_length] at hs
      rw [← HC.out, List.take_length, dTo_all] at hz
      have HS' : Hid (b = zSome X) := hs
      have HZ' := Lib.hid hz
      clear hs hz HS HZ
      go_wp2_with fail
      go_ret
      exact ⟨by rw [← HS'.out]; rfl, zs, HZ'.out, hr⟩
end
end Go.Proofs.Ytljcndcmdphmgaa

/-
  Zones: New; what Alloc answers. No condition.
-/
namespace Go.Proofs.Ytljcndcmdphmgaa
open Go.RowKit
attribute [local go_sem ↓] Go.wp_at_zero Go.wp_at_succ
theorem xsNone (n : Nat) (hn : n ≤ 8) {lim : Int} (h0 : 0 ≤ lim) (h1 : lim ≤ 64) : XsAre lim (List.replicate n nlNil) (List.replicate n []) := by
  refine ⟨⟨by simpa using hn, h0, h1, fun x hx => ?_⟩, ?_⟩
  · rw [List.eq_of_mem_replicate hx]
    exact ⟨nlNil_ok, by simp [nlNil]⟩
  · rw [List.map_replicate]
    rfl
section
variable {W w : World} {m : List (Nat × Obj)}
set_option maxHeartbeats 1000000 in
theorem znew_ok (h : Own W m w) (C N : Nat) (c1 : 1 ≤ C) (c8 : C ≤ 8) (n1 : 1 ≤ N) (n2 : N ≤ 1024) :
    Calls Try.prog 35 #[.int .i64 C, .int .i64 N] w fun e w' => ∃ zb zs, e = .returned (.tuple #[.pointer (some ⟨zb, 0, none⟩), .int .i64 0]) ∧ ZO zb (freshL N) (List.replicate C []) (fun _ => none) 0 zs ∧ Own W (zs ++ m) w' := by
  go_enter Try.func35, Try.ntmps35
  go_wp2_with fail
  refine (nrNew_ok h C 6 (by omega) (by omega) (by omega) (by omega)).mono ?_
  rintro e w1 ⟨nb, nl, rfl, h1⟩
  rw [Int.toNat_natCast] at h1
  go_wp2_with fail
  refine (bnew_ok h1 N n1 n2).mono ?_
  rintro e w2 ⟨pb, bl, rfl, hb, h2⟩
  have HB := Lib.hid hb
  clear hb
  have h3 := (h2.new (.map #[] 0)).new (.cells #[.pointer (some ⟨pb, 0, none⟩), .pointer (some ⟨nb, 0, none⟩), .int .i64 C, .int .i64 N, .map (some w2.heap.size)] 93)
  have hmm := fun w : World => run_makeMap (P := Try.prog) 91 w
  go_wp2_with fail
  go_ret2
  refine ⟨_, _, rfl, ⟨pb, nb, nl, w2.heap.size, bl, List.replicate C nlNil, #[], 0, ⟨HB.out, xsNone C c8 (by omega) (by omega), IM.nil, ⟨_, fresh_tab N⟩, by rw [fresh_len]; exact n1, by rw [fresh_len]; exact n2, by simpa using c1, fun xs hx p hp => ?_, rfl⟩⟩, ?_⟩
  · rw [List.eq_of_mem_replicate hx] at hp
    cases hp
  · rw [List.length_replicate, fresh_len]
    have := h3
    simp only [World.size_alloc] at this
    simpa [zBlk] using this
set_option maxHeartbeats 400000 in
theorem znew_bad (h : Own W m w) (C N : Int) (hn : C < 1 ∨ 8 < C ∨ N < 1 ∨ 1024 < N) :
    Calls Try.prog 35 #[.int .i64 C, .int .i64 N] w fun e w' => e = .returned (.tuple #[.pointer none, .int .i64 2]) ∧ Own W m w' := by
  by_cases hC : C < 1 ∨ 8 < C
  · have HC := Lib.hid hC
    clear hn hC
    go_enter Try.func35, Try.ntmps35
    go_wp2_with fail
    refine (nrNew_bad C 6 (by have := HC.out; omega) w).mono ?_
    rintro e w1 ⟨rfl, rfl⟩
    go_wp2_with fail
    go_ret2
    exact ⟨rfl, h⟩
  · have hN : N < 1 ∨ 1024 < N := by omega
    have HN := Lib.hid hN
    have c1 : 1 ≤ C := by omega
    have c8 : C ≤ 8 := by omega
    clear hn hC hN
    go_enter Try.func35, Try.ntmps35
    go_wp2_with fail
    refine (nrNew_ok h C 6 c1 c8 (by omega) (by omega)).mono ?_
    rintro e w1 ⟨nb, nl, rfl, h1⟩
    go_wp2_with fail
    refine (bnew_bad N HN.out w1).mono ?_
    rintro e w2 ⟨rfl, rfl⟩
    go_wp2_with fail
    go_ret2
    exact ⟨rfl, h1.dropL⟩
end
/-- what Alloc of a zone answers, and makes of it -/
def ZAllocIs (L : List Pg) (X : List (List Int)) (f : Int → Option Int) (cpu order cache p e : Int) (L' : List Pg) (X' : List (List Int)) (f' : Int → Option Int) : Prop :=
  (askE X.length cpu = 9 ∧ p = 0 ∧ e = 9 ∧ L' = L ∧ X' = X ∧ f' = f) ∨
  (askE X.length cpu = 0 ∧ ¬ AllocOk order cache ∧ p = 0 ∧ e = 2 ∧ L' = L ∧ X' = X ∧ f' = f) ∨
  (askE X.length cpu = 0 ∧ AllocOk order cache ∧ order = 0 ∧ nTake X cpu = ((p, true), X') ∧ e = 0 ∧ L' = L ∧ f' = fPut f p cache) ∨
  (askE X.length cpu = 0 ∧ AllocOk order cache ∧ (order = 0 → nTake X cpu = ((0, false), X)) ∧
    ((∃ e1, AllocIs L order cache p e1 L' ∧ ¬ (e1 = 7 ∧ zSome X = true) ∧ e = e1 ∧ X' = X) ∨
     (∃ p1 L1, AllocIs L order cache p1 7 L1 ∧ zSome X = true ∧ AllocIs (X.flatten.foldl freeT L) order cache p e L' ∧ X' = X.map fun _ => [])) ∧
    f' = if e = 0 ∧ order = 0 then fPut f p cache else f)
theorem nTake_no {X : List (List Int)} {cpu : Int} (h : (nTake X cpu).1.2 = false) : nTake X cpu = ((0, false), X) := by
  unfold nTake at h ⊢
  cases hx : xAt X cpu with
  | none => rfl
  | some xs =>
    rw [hx] at h
    simp only at h ⊢
    cases hl : xs.getLast? with
    | none => rfl
    | some p => rw [hl] at h; cases h
theorem nTake_yes {X : List (List Int)} {cpu : Int} (h : (nTake X cpu).1.2 = true) : ∃ xs p ys, xAt X cpu = some xs ∧ xs = ys ++ [p] ∧ nTake X cpu = ((p, true), X.set cpu.toNat ys) := by
  unfold nTake at h ⊢
  cases hx : xAt X cpu with
  | none => rw [hx] at h; cases h
  | some xs =>
    rw [hx] at h
    simp only at h ⊢
    cases hl : xs.getLast? with
    | none => rw [hl] at h; cases h
    | some p =>
      have hne : xs ≠ [] := by rintro rfl; simp at hl
      have hp : xs = xs.dropLast ++ [p] := by
        rw [List.getLast?_eq_some_getLast hne] at hl
        rw [← Option.some.inj hl]
        exact (List.dropLast_concat_getLast hne).symm
      exact ⟨xs, p, xs.dropLast, rfl, hp, rfl⟩
theorem zSome_no {X : List (List Int)} (h : zSome X = false) : X.flatten = [] ∧ (X.map fun _ => ([] : List Int)) = X := by
  have h1 := of_decide_eq_false h
  have h2 : X.flatten = [] := List.eq_nil_of_length_eq_zero (by omega)
  refine ⟨h2, ?_⟩
  rw [List.flatten_eq_nil_iff] at h2
  conv => rhs; rw [← List.map_id X]
  exact List.map_congr_left fun xs hx => (h2 xs hx).symm
theorem askE_cases (C cpu : Int) : askE C cpu = 9 ∨ (askE C cpu = 0 ∧ 0 ≤ cpu ∧ cpu < C) := by
  unfold askE
  split
  · exact .inl rfl
  · exact .inr ⟨rfl, by omega, by omega⟩
end Go.Proofs.Ytljcndcmdphmgaa

/-
  Zones: Alloc. No condition.
-/
namespace Go.Proofs.Ytljcndcmdphmgaa
open Go.RowKit
attribute [local go_sem ↓] Go.wp_at_zero Go.wp_at_succ
theorem IM.up {es : Array MapEntry} {n n' : Nat} {f : Int → Option Int} (h : IM es n f) (hn : n ≤ n') : IM es n' f := ⟨Nat.le_trans h.size hn, h.ints, h.apart, h.fits⟩
theorem ZO.up {zb : Nat} {L : List Pg} {X : List (List Int)} {f : Int → Option Int} {n n' : Nat} {zs : List (Nat × Obj)} (h : ZO zb L X f n zs) (hn : n ≤ n') : ZO zb L X f n' zs := by
  obtain ⟨pb, nb, nl, mb, bl, Ln, es, ck, hi⟩ := h
  exact ⟨pb, nb, nl, mb, bl, Ln, es, ck, ⟨hi.bud, hi.nr, hi.im.up hn, hi.tab, hi.l1, hi.l2, hi.x1, hi.xb, hi.eq⟩⟩
theorem allocIs_bd {L L' : List Pg} {order c p e : Int} (h : AllocIs L order c p e L') (hL : L.length ≤ 1024) : 0 ≤ p ∧ p < 1024 := by
  rcases h with ⟨-, rfl, -⟩ | ⟨-, -, rfl, -⟩ | ⟨-, a, k, h2, rfl, -⟩
  · omega
  · omega
  · have := (List.getElem?_eq_some_iff.1 h2.2.2.1).1
    omega
theorem wf_small {p : Int} (h0 : 0 ≤ p) (h1 : p < 2048) : (Lit.int .i64 p).wf = true := by
  simp [Lit.wf, IntKind.min, IntKind.max, IntKind.signed, IntKind.bits]; omega
section
variable {W w : World} {m zs : List (Nat × Obj)} {zb : Nat} {L : List Pg} {X : List (List Int)} {f : Int → Option Int} {n : Nat}
/-- the buddies' Alloc, in a zone -/
theorem zb_alloc {pb nb nl mb : Nat} {bl : List (Nat × Obj)} {Ln : List NL} {es : Array MapEntry} {ck : Nat} (hi : ZIs zb pb nb nl mb L X f n bl Ln es ck zs) (h : Own W (zs ++ m) w) (order c : Int) :
    Calls Try.prog 28 #[.pointer (some ⟨pb, 0, none⟩), .int .i64 order, .int .i64 c] w fun x w' => ∃ p e L' bl' zs', x = .returned (.tuple #[.int .i64 p, .int .i64 e]) ∧ Hid (AllocIs L order c p e L') ∧ Hid (ZIs zb pb nb nl mb L' X f n bl' Ln es ck zs') ∧ Own W (zs' ++ m) w' := by
  obtain ⟨bs, hT⟩ := hi.tab
  have h' := h
  rw [hi.eq] at h'
  refine (alloc_is (h'.perm (z_bud _ _ _ _ _)) hi.bud hT hi.l1 hi.l2 order c).mono ?_
  rintro x w' ⟨p, e, L', bl', hx, HI, HB, hO⟩
  obtain ⟨ht, hl⟩ := allocIs_tab hT HI.out
  refine ⟨p, e, L', bl', _, hx, HI, ⟨HB.out, hi.nr, hi.im, ht, by rw [hl]; exact hi.l1, by rw [hl]; exact hi.l2, hi.x1, hi.xb, rfl⟩, ?_⟩
  rw [hl]
  exact hO.perm (z_bud _ _ _ _ _).symm
/-- a store into the zone's map -/
theorem zmap_own {pb nb nl mb : Nat} {bl : List (Nat × Obj)} {Ln : List NL} {es : Array MapEntry} {ck : Nat} (hi : ZIs zb pb nb nl mb L X f n bl Ln es ck zs) (h : Own W (zs ++ m) w) : Own W ((mb, .map es ck) :: (zBlk zb pb nb mb X.length L.length :: (bl ++ nrBlocks 132 nb nl 6 Ln) ++ m)) w := by
  have h' := h
  rw [hi.eq] at h'
  exact h'.perm (z_map _ _ _ _ _)
theorem zmap_back {pb nb nl mb : Nat} {bl : List (Nat × Obj)} {Ln : List NL} {es es' : Array MapEntry} {ck ck' n' : Nat} {f' : Int → Option Int} (hi : ZIs zb pb nb nl mb L X f n bl Ln es ck zs) (hm : IM es' n' f')
    (h : Own W ((mb, .map es' ck') :: (zBlk zb pb nb mb X.length L.length :: (bl ++ nrBlocks 132 nb nl 6 Ln) ++ m)) w) : ∃ zs', ZO zb L X f' n' zs' ∧ Own W (zs' ++ m) w :=
  ⟨_, ⟨pb, nb, nl, mb, bl, Ln, es', ck', ⟨hi.bud, hi.nr, hm, hi.tab, hi.l1, hi.l2, hi.x1, hi.xb, rfl⟩⟩, h.perm (z_map _ _ _ _ _).symm⟩
def ZAllocPost (W : World) (m : List (Nat × Obj)) (zb : Nat) (L : List Pg) (X : List (List Int)) (f : Int → Option Int) (n : Nat) (cpu order cache : Int) (x : Ending) (w' : World) : Prop :=
  ∃ p e L' X' f' zs', x = .returned (.tuple #[.int .i64 p, .int .i64 e]) ∧ Hid (ZAllocIs L X f cpu order cache p e L' X' f') ∧ Hid (ZO zb L' X' f' (n + 1) zs') ∧ Own W (zs' ++ m) w'
set_option maxRecDepth 100000 in
set_option maxHeartbeats 4000000 in
theorem zalloc_bad (h : Own W (zs ++ m) w) (hz : ZO zb L X f n zs) (cpu order cache : Int) (hbad : askE X.length cpu = 9 ∨ ¬ AllocOk order cache) :
    Calls Try.prog 47 #[.pointer (some ⟨zb, 0, none⟩), .int .i64 cpu, .int .i64 order, .int .i64 cache] w (ZAllocPost W m zb L X f n cpu order cache) := by
  have HZ : Hid (ZO zb L X f (n + 1) zs) := hz.up (by omega)
  have hask := asked_spec h hz cpu
  rcases askE_cases X.length cpu with h9 | ⟨h9, hc0, hc1⟩
  · have HI : Hid (ZAllocIs L X f cpu order cache 0 9 L X f) := .inl ⟨h9, rfl, rfl, rfl, rfl, rfl⟩
    rw [h9] at hask
    have HASK := Lib.hid hask
    clear h9 hask hbad hz
    go_enter Try.func47, Try.ntmps47
    go_wp2_with fail
    refine HASK.out.mono ?_
    rintro e w1 ⟨rfl, rfl⟩
    go_wp2_with fail
    go_ret2
    exact ⟨0, 9, L, X, f, zs, rfl, HI, HZ, h⟩
  · have hno : ¬ AllocOk order cache := by
      rcases hbad with hb | hb
      · omega
      · exact hb
    have HI : Hid (ZAllocIs L X f cpu order cache 0 2 L X f) := .inr (.inl ⟨h9, hno, rfl, rfl, rfl, rfl, rfl⟩)
    have hcase : (order < 0) ∨ (0 ≤ order ∧ 10 < order) ∨ (0 ≤ order ∧ order ≤ 10 ∧ cache < 0) ∨ (0 ≤ order ∧ order ≤ 10 ∧ 0 ≤ cache ∧ 8 < cache) := by unfold AllocOk at hno; omega
    rw [h9] at hask
    have HASK := Lib.hid hask
    clear h9 hask hbad hz hno
    rcases hcase with h1 | ⟨h1, h2⟩ | ⟨h1, h2, h3⟩ | ⟨h1, h2, h3, h4⟩
    all_goals
      go_enter Try.func47, Try.ntmps47
      go_wp2_with fail
      refine HASK.out.mono ?_
      rintro e w1 ⟨rfl, rfl⟩
      go_wp2_with fail
      go_ret2
      exact ⟨0, 2, L, X, f, zs, rfl, HI, HZ, h⟩
set_option maxRecDepth 100000 in
set_option maxHeartbeats 4000000 in
theorem zalloc_take (h : Own W (zs ++ m) w) (hz : ZO zb L X f n zs) (hn : n < 100000) (cpu cache : Int) (h9 : askE X.length cpu = 0) (hok : AllocOk 0 cache) (ht : (nTake X cpu).1.2 = true) :
    Calls Try.prog 47 #[.pointer (some ⟨zb, 0, none⟩), .int .i64 cpu, .int .i64 0, .int .i64 cache] w (ZAllocPost W m zb L X f n cpu 0 cache) := by
  obtain ⟨xs, p, ys, hx, hxs, hT⟩ := nTake_yes ht
  have HI : Hid (ZAllocIs L X f cpu 0 cache p 0 L (X.set cpu.toNat ys) (fPut f p cache)) := .inr (.inr (.inl ⟨h9, hok, rfl, hT, rfl, rfl, rfl⟩))
  have hask := asked_spec h hz cpu
  rw [h9] at hask
  obtain ⟨pb, nb, nl, mb, bl, Ln, es, ck, hi⟩ := hz
  have hmem : xs ∈ X := by
    unfold xAt at hx
    split at hx
    · exact List.mem_of_getElem? hx
    · cases hx
  have hpb := hi.xb xs hmem p (by rw [hxs]; simp)
  have hr := h
  rw [hi.eq] at hr
  obtain ⟨y0, y1, y2, y3, y4⟩ := zcells hr
  have htk := ntake_spec (hr.perm (z_near _ _ _ _ _)) hi.nr cpu
  unfold NTakePost at htk
  rw [hT] at htk
  have HTK := Lib.hid htk
  have HASK := Lib.hid hask
  have hc : 0 ≤ cache ∧ cache ≤ 8 := ⟨hok.2.2.1, hok.2.2.2⟩
  obtain ⟨hc0, hc8⟩ := hc
  have hxb : ∀ xs' ∈ X.set cpu.toNat ys, ∀ q ∈ xs', 0 ≤ q ∧ q < 1024 := by
    intro xs' hx' q hq
    rcases List.mem_or_eq_of_mem_set hx' with hx' | rfl
    · exact hi.xb xs' hx' q hq
    · exact hi.xb xs hmem q (by rw [hxs]; exact List.mem_append_left _ hq)
  have HXB := Lib.hid hxb
  have HPB := Lib.hid hpb
  have HII := Lib.hid hi
  clear h9 hask ht hx hxs hT hok hmem htk hr hi hxb hpb
  go_enter Try.func47, Try.ntmps47
  go_wp2_with fail
  refine HASK.out.mono ?_
  rintro e w1 ⟨rfl, rfl⟩
  go_wp2_with fail
  refine HTK.out.mono ?_
  rintro e w2 ⟨L2, rfl, ok2, h2⟩
  have h3 := h2.perm (z_near _ _ _ _ _).symm
  have hi2 : ZIs zb pb nb nl mb L (X.set cpu.toNat ys) f n bl L2 es ck (zBlk zb pb nb mb X.length L.length :: (mb, .map es ck) :: (bl ++ nrBlocks 132 nb nl 6 L2)) :=
    ⟨HII.out.bud, ok2, HII.out.im, HII.out.tab, HII.out.l1, HII.out.l2, by rw [List.length_set]; exact HII.out.x1, HXB.out, by rw [List.length_set]⟩
  have HI2 := Lib.hid hi2
  obtain ⟨y0, y1, y2, y3, y4⟩ := zcells h3
  have h4 := zmap_own hi2 h3
  clear ok2 hi2
  go_wp2_with (at_mapUpdate; refine wpList_mapPut rfl _ _ _ rfl rfl rfl rfl HI2.out.im h4 (by unfold maxLen; omega) (wf_small HPB.out.1 (by have := HPB.out; omega)) ?_; intro es' ck' w' k1 k2; have K1 := Lib.hid k1; clear k1)
  go_ret2
  obtain ⟨zs', hz', hO'⟩ := zmap_back HI2.out K1.out k2
  exact ⟨p, 0, L, _, _, zs', rfl, HI, hz', hO'⟩
end
end Go.Proofs.Ytljcndcmdphmgaa

/-
  Zones: Alloc, the rest of it. No condition.
-/
namespace Go.Proofs.Ytljcndcmdphmgaa
open Go.RowKit
attribute [local go_sem ↓] Go.wp_at_zero Go.wp_at_succ
section
variable {W w : World} {m zs : List (Nat × Obj)} {zb : Nat} {L : List Pg} {X : List (List Int)} {f : Int → Option Int} {n : Nat}
set_option maxRecDepth 100000 in
set_option maxHeartbeats 8000000 in
theorem zalloc_zero (h : Own W (zs ++ m) w) (hz : ZO zb L X f n zs) (hn : n < 100000) (cpu cache : Int) (h9 : askE X.length cpu = 0) (hok : AllocOk 0 cache) (ht : (nTake X cpu).1.2 = false) :
    Calls Try.prog 47 #[.pointer (some ⟨zb, 0, none⟩), .int .i64 cpu, .int .i64 0, .int .i64 cache] w (ZAllocPost W m zb L X f n cpu 0 cache) := by
  have hT : nTake X cpu = ((0, false), X) := nTake_no ht
  have hnt : (0 : Int) = 0 → nTake X cpu = ((0, false), X) := fun _ => hT
  have hask := asked_spec h hz cpu
  rw [h9] at hask
  obtain ⟨pb, nb, nl, mb, bl, Ln, es, ck, hi⟩ := hz
  have hc : 0 ≤ cache ∧ cache ≤ 8 := ⟨hok.2.2.1, hok.2.2.2⟩
  obtain ⟨hc0, hc8⟩ := hc
  have W1 : Hid (∀ p L', AllocIs L 0 cache p 0 L' → ZAllocIs L X f cpu 0 cache p 0 L' X (if (0 : Int) = 0 ∧ (0 : Int) = 0 then fPut f p cache else f)) := fun p L' hA => .inr (.inr (.inr ⟨h9, hok, hnt, .inl ⟨0, hA, by simp, rfl, rfl⟩, rfl⟩))
  have W2 : Hid (∀ p L', AllocIs L 0 cache p 7 L' → zSome X = false → ZAllocIs L X f cpu 0 cache p 7 L' X (if (7 : Int) = 0 ∧ (0 : Int) = 0 then fPut f p cache else f)) := fun p L' hA hs => .inr (.inr (.inr ⟨h9, hok, hnt, .inl ⟨7, hA, by simp [hs], rfl, rfl⟩, rfl⟩))
  have W3 : Hid (∀ p1 L1 p e L', AllocIs L 0 cache p1 7 L1 → zSome X = true → AllocIs (X.flatten.foldl freeT L) 0 cache p e L' → ZAllocIs L X f cpu 0 cache p e L' (X.map fun _ => []) (if e = 0 ∧ (0 : Int) = 0 then fPut f p cache else f)) := fun p1 L1 p e L' hA hs hB => .inr (.inr (.inr ⟨h9, hok, hnt, .inr ⟨p1, L1, hA, hs, hB, rfl⟩, rfl⟩))
  have HOK := Lib.hid hok
  have HASK := Lib.hid hask
  have hr := h
  rw [hi.eq] at hr
  obtain ⟨y0, y1, y2, y3, y4⟩ := zcells hr
  have htk := ntake_spec (hr.perm (z_near _ _ _ _ _)) hi.nr cpu
  unfold NTakePost at htk
  rw [hT] at htk
  have HTK := Lib.hid htk
  have HI0 := Lib.hid hi
  clear h9 hask hok hnt hr hi hT ht htk
  go_enter Try.func47, Try.ntmps47
  go_wp2_with fail
  refine HASK.out.mono ?_
  rintro e w1 ⟨rfl, rfl⟩
  go_wp2_with fail
  refine HTK.out.mono ?_
  rintro e w2 ⟨L2, rfl, ok2, h2⟩
  have h3 := h2.perm (z_near _ _ _ _ _).symm
  have HI1 : Hid (ZIs zb pb nb nl mb L X f n bl L2 es ck (zBlk zb pb nb mb X.length L.length :: (mb, .map es ck) :: (bl ++ nrBlocks 132 nb nl 6 L2))) :=
    ⟨HI0.out.bud, ok2, HI0.out.im, HI0.out.tab, HI0.out.l1, HI0.out.l2, HI0.out.x1, HI0.out.xb, rfl⟩
  obtain ⟨y0, y1, y2, y3, y4⟩ := zcells h3
  clear ok2
  go_wp2_with fail
  refine (zb_alloc HI1.out h3 0 cache).mono ?_
  rintro e w4 ⟨p1, e1, L1, bl1, zs1, rfl, HA1, HIS1, h4⟩
  have hpb := allocIs_bd HA1.out HI0.out.l2
  have HPB := Lib.hid hpb
  have he1 : e1 = 7 ∨ e1 = 0 := by
    rcases HA1.out with ⟨hno, -⟩ | ⟨-, -, -, he, -⟩ | ⟨-, a, k, -, -, he, -⟩
    · exact absurd HOK.out hno
    · exact .inl he
    · exact .inr he
  clear hpb
  rcases he1 with rfl | rfl
  · have HZ1 : Hid (ZO zb L1 X f n zs1) := ⟨pb, nb, nl, mb, bl1, _, es, ck, HIS1.out⟩
    have hL1 : L1 = L := by
      rcases HA1.out with ⟨-, -, he, -⟩ | ⟨-, -, -, -, hl⟩ | ⟨-, a, k, -, -, he, -⟩
      · omega
      · exact hl
      · omega
    have HL1 := Lib.hid hL1
    clear hL1
    go_wp2_with fail
    refine (drains_spec h4 HZ1.out).mono ?_
    rintro e w5 ⟨zs5, rfl, hz5, h5⟩
    cases hs : zSome X with
    | false =>
      obtain ⟨hx1, hx2⟩ := zSome_no hs
      rw [hx1, hx2] at hz5
      have HZ5 : Hid (ZO zb L1 X f (n + 1) zs5) := hz5.up (by omega)
      have HW2 := Lib.hid (W2.out p1 L1 HA1.out hs)
      clear hs hx1 hx2 hz5
      go_wp2_with fail
      go_ret2
      exact ⟨p1, 7, L1, X, _, zs5, rfl, HW2, by rw [if_neg (by simp)]; exact HZ5, h5⟩
    | true =>
      rw [HL1.out] at hz5
      obtain ⟨pb5, nb5, nl5, mb5, bl5, Ln5, es5, ck5, hi5⟩ := hz5
      have HI5 := Lib.hid hi5
      have h5' := h5
      rw [hi5.eq] at h5'
      obtain ⟨y0, y1, y2, y3, y4⟩ := zcells h5'
      have HSS := Lib.hid hs
      clear hi5 h5' hs
      go_wp2_with fail
      refine (zb_alloc HI5.out h5 0 cache).mono ?_
      rintro e w6 ⟨p6, e6, L6, bl6, zs6, rfl, HA6, HIS6, h6⟩
      have HW3 := Lib.hid (W3.out p1 L1 p6 e6 L6 HA1.out HSS.out HA6.out)
      have hpb := allocIs_bd HA6.out HI5.out.l2
      have HPB := Lib.hid hpb
      have he6 : e6 = 7 ∨ e6 = 0 := by
        rcases HA6.out with ⟨hno, -⟩ | ⟨-, -, -, he, -⟩ | ⟨-, a, k, -, -, he, -⟩
        · exact absurd HOK.out hno
        · exact .inl he
        · exact .inr he
      clear hpb
      rcases he6 with rfl | rfl
      · go_wp2_with fail
        go_ret2
        exact ⟨p6, 7, L6, _, _, zs6, rfl, HW3, by rw [if_neg (by simp)]; exact (show ZO zb L6 _ f n zs6 from ⟨pb5, nb5, nl5, mb5, bl6, _, es5, ck5, HIS6.out⟩).up (by omega), h6⟩
      · have h6' := h6
        rw [HIS6.out.eq] at h6'
        obtain ⟨y0, y1, y2, y3, y4⟩ := zcells h6'
        have hm4 := zmap_own HIS6.out h6
        clear h6'
        go_wp2_with (at_mapUpdate; refine wpList_mapPut rfl _ _ _ rfl rfl rfl rfl HIS6.out.im hm4 (by unfold maxLen; omega) (wf_small HPB.out.1 (by have := HPB.out; omega)) ?_; intro es' ck' w' k1 k2; have K1 := Lib.hid k1; clear k1)
        go_ret2
        obtain ⟨zs', hz', hO'⟩ := zmap_back HIS6.out K1.out k2
        exact ⟨p6, 0, L6, _, _, zs', rfl, HW3, by rw [if_pos (by simp)]; exact hz', hO'⟩
  · have h4' := h4
    rw [HIS1.out.eq] at h4'
    obtain ⟨y0, y1, y2, y3, y4⟩ := zcells h4'
    have hm4 := zmap_own HIS1.out h4
    have HW1 := Lib.hid (W1.out p1 L1 HA1.out)
    clear h4'
    go_wp2_with (at_mapUpdate; refine wpList_mapPut rfl _ _ _ rfl rfl rfl rfl HIS1.out.im hm4 (by unfold maxLen; omega) (wf_small HPB.out.1 (by have := HPB.out; omega)) ?_; intro es' ck' w' k1 k2; have K1 := Lib.hid k1; clear k1)
    go_ret2
    obtain ⟨zs', hz', hO'⟩ := zmap_back HIS1.out K1.out k2
    exact ⟨p1, 0, L1, X, _, zs', rfl, HW1, by rw [if_pos (by simp)]; exact hz', hO'⟩
set_option maxRecDepth 100000 in
set_option maxHeartbeats 8000000 in
theorem zalloc_more (h : Own W (zs ++ m) w) (hz : ZO zb L X f n zs) (_hn : n < 100000) (cpu order cache : Int) (h9 : askE X.length cpu = 0) (hok : AllocOk order cache) (ho : 0 < order) :
    Calls Try.prog 47 #[.pointer (some ⟨zb, 0, none⟩), .int .i64 cpu, .int .i64 order, .int .i64 cache] w (ZAllocPost W m zb L X f n cpu order cache) := by
  have hnt : order = 0 → nTake X cpu = ((0, false), X) := fun he => by omega
  have ho10 : order ≤ 10 := hok.2.1
  have hob : (order == 0) = false := beq_eq_false_iff_ne.2 (by omega)
  have hask := asked_spec h hz cpu
  rw [h9] at hask
  obtain ⟨pb, nb, nl, mb, bl, Ln, es, ck, hi⟩ := hz
  have hc : 0 ≤ cache ∧ cache ≤ 8 := ⟨hok.2.2.1, hok.2.2.2⟩
  obtain ⟨hc0, hc8⟩ := hc
  have W1 : Hid (∀ p L', AllocIs L order cache p 0 L' → ZAllocIs L X f cpu order cache p 0 L' X (if (0 : Int) = 0 ∧ (order : Int) = 0 then fPut f p cache else f)) := fun p L' hA => .inr (.inr (.inr ⟨h9, hok, hnt, .inl ⟨0, hA, by simp, rfl, rfl⟩, rfl⟩))
  have W2 : Hid (∀ p L', AllocIs L order cache p 7 L' → zSome X = false → ZAllocIs L X f cpu order cache p 7 L' X (if (7 : Int) = 0 ∧ (order : Int) = 0 then fPut f p cache else f)) := fun p L' hA hs => .inr (.inr (.inr ⟨h9, hok, hnt, .inl ⟨7, hA, by simp [hs], rfl, rfl⟩, rfl⟩))
  have W3 : Hid (∀ p1 L1 p e L', AllocIs L order cache p1 7 L1 → zSome X = true → AllocIs (X.flatten.foldl freeT L) order cache p e L' → ZAllocIs L X f cpu order cache p e L' (X.map fun _ => []) (if e = 0 ∧ (order : Int) = 0 then fPut f p cache else f)) := fun p1 L1 p e L' hA hs hB => .inr (.inr (.inr ⟨h9, hok, hnt, .inr ⟨p1, L1, hA, hs, hB, rfl⟩, rfl⟩))
  have HOK := Lib.hid hok
  have HASK := Lib.hid hask
  have hr := h
  rw [hi.eq] at hr
  obtain ⟨y0, y1, y2, y3, y4⟩ := zcells hr
  have HI0 := Lib.hid hi
  clear h9 hask hok hnt hr hi
  go_enter Try.func47, Try.ntmps47
  go_wp2_with fail
  refine HASK.out.mono ?_
  rintro e w1 ⟨rfl, rfl⟩
  go_wp2_with fail
  have HI1 := HI0
  have h3 := h
  refine (zb_alloc HI1.out h3 order cache).mono ?_
  rintro e w4 ⟨p1, e1, L1, bl1, zs1, rfl, HA1, HIS1, h4⟩
  have hpb := allocIs_bd HA1.out HI0.out.l2
  have HPB := Lib.hid hpb
  have he1 : e1 = 7 ∨ e1 = 0 := by
    rcases HA1.out with ⟨hno, -⟩ | ⟨-, -, -, he, -⟩ | ⟨-, a, k, -, -, he, -⟩
    · exact absurd HOK.out hno
    · exact .inl he
    · exact .inr he
  clear hpb
  rcases he1 with rfl | rfl
  · have HZ1 : Hid (ZO zb L1 X f n zs1) := ⟨pb, nb, nl, mb, bl1, _, es, ck, HIS1.out⟩
    have hL1 : L1 = L := by
      rcases HA1.out with ⟨-, -, he, -⟩ | ⟨-, -, -, -, hl⟩ | ⟨-, a, k, -, -, he, -⟩
      · omega
      · exact hl
      · omega
    have HL1 := Lib.hid hL1
    clear hL1
    go_wp2_with fail
    refine (drains_spec h4 HZ1.out).mono ?_
    rintro e w5 ⟨zs5, rfl, hz5, h5⟩
    cases hs : zSome X with
    | false =>
      obtain ⟨hx1, hx2⟩ := zSome_no hs
      rw [hx1, hx2] at hz5
      have HZ5 : Hid (ZO zb L1 X f (n + 1) zs5) := hz5.up (by omega)
      have HW2 := Lib.hid (W2.out p1 L1 HA1.out hs)
      clear hs hx1 hx2 hz5
      go_wp2_with fail
      go_ret2
      exact ⟨p1, 7, L1, X, _, zs5, rfl, HW2, by rw [if_neg (by simp)]; exact HZ5, h5⟩
    | true =>
      rw [HL1.out] at hz5
      obtain ⟨pb5, nb5, nl5, mb5, bl5, Ln5, es5, ck5, hi5⟩ := hz5
      have HI5 := Lib.hid hi5
      have h5' := h5
      rw [hi5.eq] at h5'
      obtain ⟨y0, y1, y2, y3, y4⟩ := zcells h5'
      have HSS := Lib.hid hs
      clear hi5 h5' hs
      go_wp2_with fail
      refine (zb_alloc HI5.out h5 order cache).mono ?_
      rintro e w6 ⟨p6, e6, L6, bl6, zs6, rfl, HA6, HIS6, h6⟩
      have HW3 := Lib.hid (W3.out p1 L1 p6 e6 L6 HA1.out HSS.out HA6.out)
      have hpb := allocIs_bd HA6.out HI5.out.l2
      have HPB := Lib.hid hpb
      have he6 : e6 = 7 ∨ e6 = 0 := by
        rcases HA6.out with ⟨hno, -⟩ | ⟨-, -, -, he, -⟩ | ⟨-, a, k, -, -, he, -⟩
        · exact absurd HOK.out hno
        · exact .inl he
        · exact .inr he
      clear hpb
      rcases he6 with rfl | rfl
      · go_wp2_with fail
        go_ret2
        exact ⟨p6, 7, L6, _, _, zs6, rfl, HW3, by rw [if_neg (by simp)]; exact (show ZO zb L6 _ f n zs6 from ⟨pb5, nb5, nl5, mb5, bl6, _, es5, ck5, HIS6.out⟩).up (by omega), h6⟩
      · go_wp2_with fail
        go_ret2
        exact ⟨p6, 0, L6, _, _, zs6, rfl, HW3, by rw [if_neg (by omega)]; exact (show ZO zb L6 _ f n zs6 from ⟨pb5, nb5, nl5, mb5, bl6, _, es5, ck5, HIS6.out⟩).up (by omega), h6⟩
  · have HW1 := Lib.hid (W1.out p1 L1 HA1.out)
    go_wp2_with fail
    go_ret2
    exact ⟨p1, 0, L1, X, _, zs1, rfl, HW1, by rw [if_neg (by omega)]; exact (show ZO zb L1 X f n zs1 from ⟨pb, nb, nl, mb, bl1, _, es, ck, HIS1.out⟩).up (by omega), h4⟩
theorem zalloc_spec (h : Own W (zs ++ m) w) (hz : ZO zb L X f n zs) (hn : n < 100000) (cpu order cache : Int) :
    Calls Try.prog 47 #[.pointer (some ⟨zb, 0, none⟩), .int .i64 cpu, .int .i64 order, .int .i64 cache] w (ZAllocPost W m zb L X f n cpu order cache) := by
  by_cases hbad : askE X.length cpu = 9 ∨ ¬ AllocOk order cache
  · exact zalloc_bad h hz cpu order cache hbad
  · have h9 : askE X.length cpu = 0 := by
      rcases askE_cases X.length cpu with h | ⟨h, -⟩
      · exact absurd (.inl h) hbad
      · exact h
    have hok : AllocOk order cache := Classical.byContradiction fun hn => hbad (.inr hn)
    by_cases ho : order = 0
    · subst ho
      cases ht : (nTake X cpu).1.2 with
      | true => exact zalloc_take h hz hn cpu cache h9 hok ht
      | false => exact zalloc_zero h hz hn cpu cache h9 hok ht
    · exact zalloc_more h hz hn cpu order cache h9 hok (by have := hok.1; omega)
end
end Go.Proofs.Ytljcndcmdphmgaa

/-
  Zones: Drain, Left, Near, Whole. No condition.
-/
namespace Go.Proofs.Ytljcndcmdphmgaa
open Go.RowKit
attribute [local go_sem ↓] Go.wp_at_zero Go.wp_at_succ
section
variable {W w : World} {m zs : List (Nat × Obj)} {zb : Nat} {L : List Pg} {X : List (List Int)} {f : Int → Option Int} {n : Nat}
theorem ask0 (hz : ZO zb L X f n zs) : askE X.length 0 = 0 := by
  obtain ⟨pb, nb, nl, mb, bl, Ln, es, ck, hi⟩ := hz
  have := hi.x1
  unfold askE
  rw [if_neg (by omega)]
theorem nDrain_xb {X : List (List Int)} {cpu : Int} (h : ∀ xs ∈ X, ∀ p ∈ xs, 0 ≤ p ∧ p < 1024) : ∀ xs ∈ (nDrain X cpu).2, ∀ p ∈ xs, 0 ≤ p ∧ p < 1024 := by
  unfold nDrain
  cases hx : xAt X cpu with
  | none => exact h
  | some ys =>
    intro xs hm p hp
    rcases List.mem_or_eq_of_mem_set hm with hm | rfl
    · exact h xs hm p hp
    · cases hp
theorem nDrain_len (X : List (List Int)) (cpu : Int) : (nDrain X cpu).2.length = X.length := by
  unfold nDrain
  cases hx : xAt X cpu <;> simp
/-- what Drain of a zone answers, and makes of it -/
def ZDrainIs (L : List Pg) (X : List (List Int)) (cpu e : Int) (L' : List Pg) (X' : List (List Int)) : Prop :=
  (askE X.length cpu = 9 ∧ e = 9 ∧ L' = L ∧ X' = X) ∨ (askE X.length cpu = 0 ∧ e = 0 ∧ L' = (nDrain X cpu).1.foldl freeT L ∧ X' = (nDrain X cpu).2)
/-- pages go back -/
theorem zeach_fin {pb nb nl mb : Nat} {bl bs1 bl2 : List (Nat × Obj)} {Ln L1 : List NL} {es : Array MapEntry} {ck : Nat} {w2 : World} {X1 : List (List Int)} {l : List Int} (hi : ZIs zb pb nb nl mb L X f n bl Ln es ck zs) (ok1 : XsAre 6 L1 X1) (hx : X1.length = X.length) (hxb : ∀ xs ∈ X1, ∀ p ∈ xs, 0 ≤ p ∧ p < 1024)
    (hb2 : BdO pb (l.foldl freeT L) bl2) (h2 : Own W (bs1 ++ (bl2 ++ (zBlk zb pb nb mb X.length L.length :: (mb, .map es ck) :: (nrBlocks 132 nb nl 6 L1 ++ m)))) w2) : ∃ zs2, ZO zb (l.foldl freeT L) X1 f n zs2 ∧ Own W (zs2 ++ m) w2 := by
  obtain ⟨bT, hbT⟩ := hi.tab
  obtain ⟨ht, hl⟩ := backs_tab l hbT
  refine ⟨_, ⟨pb, nb, nl, mb, bl2, L1, es, ck, ⟨hb2, ok1, hi.im, ht, by rw [hl]; exact hi.l1, by rw [hl]; exact hi.l2, by rw [hx]; exact hi.x1, hxb, rfl⟩⟩, ?_⟩
  rw [hl, hx]
  exact (h2.dropL).perm (z_bud _ _ _ _ _).symm
set_option maxRecDepth 100000 in
set_option maxHeartbeats 4000000 in
theorem zdrain_spec (h : Own W (zs ++ m) w) (hz : ZO zb L X f n zs) (cpu : Int) :
    Calls Try.prog 45 #[.pointer (some ⟨zb, 0, none⟩), .int .i64 cpu] w fun x w' => ∃ e L' X' zs', x = .returned (.int .i64 e) ∧ Hid (ZDrainIs L X cpu e L' X') ∧ Hid (ZO zb L' X' f n zs') ∧ Own W (zs' ++ m) w' := by
  have HZ := Lib.hid hz
  have hask := asked_spec h hz cpu
  rcases askE_cases X.length cpu with h9 | ⟨h9, hc0, hc1⟩
  · have HI : Hid (ZDrainIs L X cpu 9 L X) := .inl ⟨h9, rfl, rfl, rfl⟩
    rw [h9] at hask
    have HASK := Lib.hid hask
    clear h9 hask hz
    go_enter Try.func45, Try.ntmps45
    go_wp2_with fail
    refine HASK.out.mono ?_
    rintro e w1 ⟨rfl, rfl⟩
    go_wp2_with fail
    go_ret
    exact ⟨9, L, X, zs, rfl, HI, HZ, h⟩
  · have HI : Hid (ZDrainIs L X cpu 0 ((nDrain X cpu).1.foldl freeT L) (nDrain X cpu).2) := .inr ⟨h9, rfl, rfl, rfl⟩
    rw [h9] at hask
    obtain ⟨pb, nb, nl, mb, bl, Ln, es, ck, hi⟩ := id hz
    have hr := h
    rw [hi.eq] at hr
    obtain ⟨y0, y1, y2, y3, y4⟩ := zcells hr
    have hnr := hr.perm (z_near _ _ _ _ _)
    obtain ⟨xs, hxs⟩ : ∃ xs, (nDrain X cpu).1 = xs := ⟨_, rfl⟩
    obtain ⟨X1, hX1⟩ : ∃ X1, (nDrain X cpu).2 = X1 := ⟨_, rfl⟩
    have hxb := nDrain_xb (cpu := cpu) hi.xb
    have hxl := nDrain_len X cpu
    rw [hxs, hX1] at HI
    rw [hX1] at hxb hxl
    have hdr := ndrain_spec hnr.drew hi.nr cpu
    unfold NDrainPost at hdr
    rw [hxs, hX1] at hdr
    have HDR := Lib.hid hdr
    have HII := Lib.hid hi
    have HXB := Lib.hid hxb
    have HXL := Lib.hid hxl
    have HASK := Lib.hid hask
    obtain ⟨bT, hbT⟩ := hi.tab
    have HT := Lib.hid hbT
    clear h9 hask hz hr hnr hxs hX1 hdr hi hxb hxl hbT
    go_enter Try.func45, Try.ntmps45
    go_wp2_with fail
    refine HASK.out.mono ?_
    rintro e w1 ⟨rfl, rfl⟩
    go_wp2_with fail
    go_region_held3 (fun w' => w'.cell? ⟨zb, 0, none⟩ = some (.pointer (some ⟨pb, 0, none⟩)) ∧ w'.cell? ⟨zb, 1, none⟩ = some (.pointer (some ⟨nb, 0, none⟩))) (first | assumption | (refine ⟨?_, ?_⟩ <;> assumption) | go_keep)
      (first | (go_at_call 82; refine HDR.out.mono ?_; rintro e w2 ⟨v1, bs1, L1, rfl, o1, ok1, h1⟩; obtain ⟨A1, c1, rfl, -, -⟩ := o1.slice; obtain ⟨y0, y1, y2, y3, y4⟩ := zcells' h1 (List.mem_append_right _ (List.mem_append_right _ List.mem_cons_self))) |
        (go_at_call 81; refine (each_spec (h1.perm (List.Perm.append_left bs1 ((z_near _ _ _ _ _).symm.trans (z_bud _ _ _ _ _)))) o1 HII.out.bud HT.out HII.out.l1 HII.out.l2).mono ?_; rintro e w3 ⟨bl2, rfl, hb2, h2⟩; obtain ⟨y0, y1, y2, y3, y4⟩ := zcells' h2 (List.mem_append_right _ (List.mem_append_right _ List.mem_cons_self))))
    all_goals
      obtain ⟨zs2, hz2, h3⟩ := zeach_fin HII.out ok1 HXL.out HXB.out hb2 h2
      have HZ2 := Lib.hid hz2
      clear ok1 o1 hb2 hz2
      go_wp2_with fail
      go_ret
      exact ⟨0, _, X1, zs2, rfl, HI, HZ2, h3⟩
set_option maxHeartbeats 1000000 in
theorem zwhole_spec (h : Own W (zs ++ m) w) (hz : ZO zb L X f n zs) :
    Calls Try.prog 46 #[.pointer (some ⟨zb, 0, none⟩)] w fun e w' => e = .returned (.bool (decide (L = freshL L.length))) ∧ Own W (zs ++ m) w' := by
  have hask := asked_spec h hz 0
  rw [ask0 hz] at hask
  have HASK := Lib.hid hask
  obtain ⟨pb, nb, nl, mb, bl, Ln, es, ck, hi⟩ := hz
  have hr := h
  rw [hi.eq] at hr
  obtain ⟨y0, y1, y2, y3, y4⟩ := zcells hr
  have hwh := whole_is (hr.perm (z_bud _ _ _ _ _)) hi.bud hi.l1 hi.l2
  have HWH := Lib.hid hwh
  have HI := Lib.hid hi
  obtain ⟨b, hb⟩ : ∃ b, decide (L = freshL L.length) = b := ⟨_, rfl⟩
  rw [hb] at HWH ⊢
  clear hask hr hwh hi hb
  go_enter Try.func46, Try.ntmps46
  go_wp2_with fail
  refine HASK.out.mono ?_
  rintro e w1 ⟨rfl, rfl⟩
  go_wp2_with fail
  refine HWH.out.mono ?_
  rintro e w2 ⟨rfl, h2⟩
  go_wp2_with fail
  go_ret
  exact ⟨rfl, by rw [HI.out.eq]; exact h2.perm (z_bud _ _ _ _ _).symm⟩
set_option maxHeartbeats 1000000 in
theorem znear_spec (h : Own W (zs ++ m) w) (hz : ZO zb L X f n zs) (cpu : Int) :
    Calls Try.prog 44 #[.pointer (some ⟨zb, 0, none⟩), .int .i64 cpu] w fun e w' => e = .returned (.int .i64 (nList X cpu).length) ∧ Own W (zs ++ m) w' := by
  have hask := asked_spec h hz cpu
  have HASK := Lib.hid hask
  obtain ⟨pb, nb, nl, mb, bl, Ln, es, ck, hi⟩ := hz
  rcases askE_cases X.length cpu with h9 | ⟨h9, hc0, hc1⟩
  · have hn : nList X cpu = [] := by
      unfold nList xAt
      unfold askE at h9
      split at h9
      · split
        · rw [List.getElem?_eq_none (by omega)]; rfl
        · rfl
      · omega
    rw [hn]
    rw [h9] at HASK
    clear h9 hask hn hi
    go_enter Try.func44, Try.ntmps44
    go_wp2_with fail
    refine HASK.out.mono ?_
    rintro e w1 ⟨rfl, rfl⟩
    go_wp2_with fail
    go_ret
    exact ⟨rfl, h⟩
  · rw [h9] at HASK
    have hr := h
    rw [hi.eq] at hr
    obtain ⟨y0, y1, y2, y3, y4⟩ := zcells hr
    have hls := nlist_spec (hr.perm (z_near _ _ _ _ _)) hi.nr cpu
    have HLS := Lib.hid hls
    have HI := Lib.hid hi
    clear h9 hask hr hi hls
    go_enter Try.func44, Try.ntmps44
    go_wp2_with fail
    refine HASK.out.mono ?_
    rintro e w1 ⟨rfl, rfl⟩
    go_wp2_with fail
    refine HLS.out.mono ?_
    rintro e w2 ⟨v, bs, rfl, o1, h2⟩
    obtain ⟨A1, c1, rfl, -, -⟩ := o1.slice
    clear o1
    obtain ⟨z, hz⟩ : ∃ z, (nList X cpu).length = z := ⟨_, rfl⟩
    have HZZ := Lib.hid hz
    rw [hz]
    clear hz
    go_wp2_with fail
    go_ret
    exact ⟨by rw [HZZ.out]; rfl, by rw [HI.out.eq]; exact (h2.dropL).perm (z_near _ _ _ _ _).symm⟩
/-- how many pages are near -/
def nearAll (X : List (List Int)) : Nat := X.flatten.length
/-- how many pages are near, of the first processors -/
def nearTo (X : List (List Int)) (c : Nat) : Nat := ((X.take c).flatten).length
theorem nearTo_step {X : List (List Int)} {c : Nat} {xs : List Int} (h : X[c]? = some xs) : nearTo X (c + 1) = nearTo X c + xs.length := by
  unfold nearTo
  rw [(dTo_step h).2, List.length_append]
set_option maxHeartbeats 2000000 in
theorem zleft_spec (h : Own W (zs ++ m) w) (hz : ZO zb L X f n zs) :
    Calls Try.prog 41 #[.pointer (some ⟨zb, 0, none⟩)] w fun e w' => e = .returned (.int .i64 (pgFree L + (nearAll X : Nat))) ∧ Own W (zs ++ m) w' := by
  have hask := asked_spec h hz 0
  rw [ask0 hz] at hask
  have HASK := Lib.hid hask
  obtain ⟨pb, nb, nl, mb, bl, Ln, es, ck, hi⟩ := hz
  have hr := h
  rw [hi.eq] at hr
  obtain ⟨y0, y1, y2, y3, y4⟩ := zcells hr
  obtain ⟨bT, hbT⟩ := hi.tab
  have hbd : 0 ≤ pgFree L ∧ pgFree L ≤ L.length := by
    rw [pgFree_tab hbT hi.l1 hi.l2]
    have h3 := tab_len hbT
    have : ∀ bs : List Pg, 0 ≤ freeSum bs ∧ freeSum bs ≤ (lay bs).length := fun bs => by
      induction bs with
      | nil => simp [freeSum]
      | cons p bs ih =>
        have h2 := lay_cons_len p bs
        unfold freeSum
        split <;> omega
    have := this bT
    omega
  have hl2 := hi.l2
  have hleft := left_spec (hr.perm (z_bud _ _ _ _ _)) hi.bud hi.l1
  obtain ⟨F, hF⟩ : ∃ F, pgFree L = F := ⟨_, rfl⟩
  rw [hF] at hleft hbd ⊢
  obtain ⟨C, hC⟩ : ∃ C, X.length = C := ⟨_, rfl⟩
  have HC := Lib.hid hC
  have hc8 : C ≤ 8 := by
    have h1 := hi.nr.1.1
    have h2 := congrArg List.length hi.nr.2
    rw [List.length_map] at h2
    omega
  have hxs : Hid (∀ (c : Nat) xs, X[c]? = some xs → xs.length ≤ 64) := fun c xs hx => by
    rw [← hi.nr.2, List.getElem?_map] at hx
    obtain ⟨y, hy, rfl⟩ := Option.map_eq_some_iff.1 hx
    exact (hi.nr.1.at_ hy).2
  have HLEFT := Lib.hid hleft
  have HI := Lib.hid hi
  have hF2 : F ≤ 1024 := by omega
  have hF1 : 0 ≤ F := hbd.1
  have hall : nearTo X C = nearAll X := by unfold nearTo nearAll; rw [← hC, List.take_length]
  have HALL := Lib.hid hall
  rw [hC] at y2
  clear hask hr hi hbT hleft hC hbd hF hl2 hall
  go_enter Try.func41, Try.ntmps41
  go_wp2_with fail
  refine HASK.out.mono ?_
  rintro e w1 ⟨rfl, rfl⟩
  go_wp2_with fail
  refine HLEFT.out.mono ?_
  rintro e w2 ⟨rfl, h2⟩
  obtain ⟨y0, y1, y2, y3, y4⟩ := zcells' h2 (List.mem_append_right _ List.mem_cons_self)
  rw [HC.out] at y2
  have h3 : Own W (zs ++ m) w2 := by rw [HI.out.eq]; exact h2.perm (z_bud _ _ _ _ _).symm
  clear h2
  go_wp2_with fail
  go_loopw [3, 17] (fun nv iv wr => ∃ c : Nat, iv = .int .i64 c ∧ c ≤ C ∧ Hid (nearTo X c ≤ c * 64) ∧ nv = .int .i64 (F + (nearTo X c : Nat)) ∧ Own W (zs ++ m) wr) (fun _ iv _ => C - (intOf iv).toNat)
  case atStart => exact ⟨0, rfl, by omega, by simp [Hid, nearTo], by simp [nearTo], h3⟩
  case round =>
    clear h3 y0 y1 y2 y3 y4
    obtain ⟨c, rfl, hc, HN, rfl, hr⟩ := hrel
    have hr' := hr
    rw [HI.out.eq] at hr'
    obtain ⟨y0, y1, y2, y3, y4⟩ := zcells hr'
    obtain ⟨K, hK⟩ : ∃ K, nearTo X c = K := ⟨_, rfl⟩
    have hKb : K ≤ 512 := by have := HN.out; rw [hK] at this; omega
    have HK := Lib.hid hK
    rw [hK]
    clear hK
    by_cases hlt : c < C
    · have hlti : (c : Int) < C := by omega
      obtain ⟨xs, hx⟩ : ∃ xs, X[c]? = some xs := ⟨_, List.getElem?_eq_getElem (by have := HC.out; omega)⟩
      have hstep := nearTo_step hx
      have hx64 := hxs.out c xs hx
      have hls := nlist_spec (hr'.perm (z_near _ _ _ _ _)) HI.out.nr (c : Int)
      have hnl : nList X (c : Int) = xs := by
        unfold nList xAt
        rw [if_pos (by omega), Int.toNat_natCast, hx]
        rfl
      rw [hnl] at hls
      have HLS := Lib.hid hls
      obtain ⟨z, hz⟩ : ∃ z, xs.length = z := ⟨_, rfl⟩
      rw [hz] at hstep hx64
      rw [HK.out] at hstep
      have HST := Lib.hid hstep
      have HZZ := Lib.hid hz
      clear hx hstep hls hnl hr' hz
      go_wp2_with fail
      refine HLS.out.mono ?_
      rintro e w4 ⟨v, bs, rfl, o1, h4⟩
      obtain ⟨A1, c1, rfl, -, -⟩ := o1.slice
      rw [HZZ.out]
      have h5 : Own W (zs ++ m) w4 := by rw [HI.out.eq]; exact (h4.dropL).perm (z_near _ _ _ _ _).symm
      clear o1 h4
      go_wp2_with fail
      refine ⟨⟨c + 1, by go_num, by omega, ?_, by rw [HST.out]; congr 1; omega, h5⟩, by simp [intOf]; omega⟩
      show nearTo X (c + 1) ≤ (c + 1) * 64
      have := HN.out
      rw [HST.out]
      rw [HK.out] at this
      omega
    · obtain rfl : c = C := by omega
      have hlti : ¬ (c : Int) < c := by omega
      clear hr'
      go_wp2_with fail
      go_ret
      exact ⟨by rw [← HALL.out, HK.out]; rfl, hr⟩
end
end Go.Proofs.Ytljcndcmdphmgaa

/-
  Zones: Tag. No condition.
-/
namespace Go.Proofs.Ytljcndcmdphmgaa
open Go.RowKit
attribute [local go_sem ↓] Go.wp_at_zero Go.wp_at_succ
/-- the block in which a page lies: its place, and what it says -/
def BlkOf (L : List Pg) (page : Nat) (a : Nat) (x : Pg) : Prop := L[a]? = some x ∧ x.1 ≠ 1 ∧ a ≤ page ∧ page < a + pgSize x
theorem blkOf {L bs : List Pg} (hT : Tab L bs) {page : Nat} (hp : page < L.length) : ∃ a x, BlkOf L page a x := by
  have hlen := tab_len hT
  obtain ⟨b1, x, b2, rfl, h1, h2⟩ := row_find bs 0 page (by omega) (by omega)
  rw [Nat.zero_add] at h1 h2
  have hk := head_kind ((row_append b1 _ 0).1 hT.2).2.1
  exact ⟨(lay b1).length, x, tab_at hT, by omega, h1, h2⟩
theorem blkOf_hd {L bs : List Pg} (hT : Tab L bs) {page a : Nat} {x : Pg} (h : BlkOf L page a x) : pgHd L page = a := by
  obtain ⟨h1, h2, h3, h4⟩ := h
  obtain ⟨b1, b2, rfl, rfl⟩ := tab_block hT h1 h2
  exact (pgHd_at hT (page := (page : Int)) (by omega) (by omega)).1
theorem blkOf_one {L bs : List Pg} (hT : Tab L bs) {page a a' : Nat} {x x' : Pg} (h : BlkOf L page a x) (h' : BlkOf L page a' x') : a = a' ∧ x = x' := by
  have e : (a : Int) = a' := (blkOf_hd hT h).symm.trans (blkOf_hd hT h')
  obtain rfl : a = a' := by omega
  have := h.1.symm.trans h'.1
  exact ⟨rfl, Option.some.inj this⟩
/-- what Tag answers -/
def ZTagIs (L : List Pg) (X : List (List Int)) (f : Int → Option Int) (page : Int) (t : Option (Int × Int × Int)) : Prop :=
  ((page < 0 ∨ (L.length : Int) ≤ page) ∧ t = none) ∨
  ∃ (p a : Nat) (x : Pg), page = p ∧ p < L.length ∧ BlkOf L p a x ∧ (((x.1 ≠ 2 ∨ xHas X a = true) ∧ t = none) ∨ (x.1 = 2 ∧ xHas X a = false ∧ t = some ((a : Int), x.2.1, (f a).getD x.2.2)))
def tagV : Option (Int × Int × Int) → Value
  | some (h, o, c) => .tuple #[.agg #[.int .i64 h, .int .i64 o, .int .i64 c], .bool true]
  | none => .tuple #[.agg #[.int .i64 0, .int .i64 0, .int .i64 0], .bool false]
section
variable {W w : World} {m zs : List (Nat × Obj)} {zb : Nat} {L : List Pg} {X : List (List Int)} {f : Int → Option Int} {n : Nat}
set_option maxHeartbeats 1000000 in
theorem ztag_out (h : Own W (zs ++ m) w) (hz : ZO zb L X f n zs) (page : Int) (hp : page < 0 ∨ (L.length : Int) ≤ page) :
    Calls Try.prog 42 #[.pointer (some ⟨zb, 0, none⟩), .int .i64 page] w fun e w' => e = .returned (tagV none) ∧ Own W (zs ++ m) w' := by
  have h0 := h.new1 (.cells #[.int .i64 0, .int .i64 0, .int .i64 0] 80)
  have hask := asked_spec h0 hz 0
  rw [ask0 hz] at hask
  have HASK := Lib.hid hask
  obtain ⟨pb, nb, nl, mb, bl, Ln, es, ck, hi⟩ := hz
  have hr := h0
  rw [hi.eq] at hr
  obtain ⟨y0, y1, y2, y3, y4⟩ := zcells hr
  obtain ⟨N, hN⟩ : ∃ N, L.length = N := ⟨_, rfl⟩
  rw [hN] at y3 hp
  have q0 := h0.dropL.cell List.mem_cons_self 0
  have q1 := h0.dropL.cell List.mem_cons_self 1
  have q2 := h0.dropL.cell List.mem_cons_self 2
  have f0 := h0.dropL.frozen List.mem_cons_self 0
  have f1 := h0.dropL.frozen List.mem_cons_self 1
  have f2 := h0.dropL.frozen List.mem_cons_self 2
  simp at q0 q1 q2
  have hcase : page < 0 ∨ (0 ≤ page ∧ (N : Int) ≤ page) := by omega
  have h5 := (((h0.drop1.new1 (.cells #[.int .i64 0, .int .i64 0, .int .i64 0] 80))))
  clear hask hi hr hN hp h5
  rcases hcase with hp | ⟨hp0, hp⟩
  all_goals
    go_enter Try.func42, Try.ntmps42
    go_wp2_with fail
    refine HASK.out.mono ?_
    rintro e w1 ⟨rfl, rfl⟩
    go_wp2_with fail
    have h6 := ((h0.setIn 0 (.int .i64 0)).setIn 1 (.int .i64 0)).setIn 2 (.int .i64 0)
    have e0 := h6.dropL.cell List.mem_cons_self 0
    have e1 := h6.dropL.cell List.mem_cons_self 1
    have e2 := h6.dropL.cell List.mem_cons_self 2
    simp at e0 e1 e2
    exact bodyPost_ret (v := .tuple #[.agg #[.int .i64 0, .int .i64 0, .int .i64 0], .bool false]) (by simp [results, Try.f42, go_sem]) rfl ⟨rfl, h0.drop1⟩
set_option maxRecDepth 100000 in
set_option maxHeartbeats 4000000 in
theorem ztag_in (h : Own W (zs ++ m) w) (hz : ZO zb L X f n zs) (p a : Nat) (x : Pg) (hp : p < L.length) (hx : BlkOf L p a x) :
    Calls Try.prog 42 #[.pointer (some ⟨zb, 0, none⟩), .int .i64 p] w fun e w' => e = .returned (tagV (if x.1 = 2 ∧ xHas X a = false then some ((a : Int), x.2.1, (f a).getD x.2.2) else none)) ∧ Own W (zs ++ m) w' := by
  have h0 := h.new1 (.cells #[.int .i64 0, .int .i64 0, .int .i64 0] 80)
  have hask := asked_spec h0 hz 0
  rw [ask0 hz] at hask
  have HASK := Lib.hid hask
  obtain ⟨pb, nb, nl, mb, bl, Ln, es, ck, hi⟩ := hz
  have hr := h0
  rw [hi.eq] at hr
  obtain ⟨y0, y1, y2, y3, y4⟩ := zcells hr
  obtain ⟨bT, hT⟩ := hi.tab
  have hhd := blkOf_hd hT hx
  have hchk := pgCheck_of_tab hT hi.l1 hi.l2
  have hhE : pgHeadE L (p : Int) = ((a : Int), 0) := by
    unfold pgHeadE
    rw [hchk, if_neg (by simp), if_neg (by omega), hhd]
  have hpg := pages_spec (hr.perm (z_bud _ _ _ _ _)) hi.bud hi.l1 hi.l2
  have haL : a < L.length := (List.getElem?_eq_some_iff.1 hx.1).1
  have hl2 := hi.l2
  obtain ⟨x0, x1, x2⟩ := x
  obtain ⟨R, hR⟩ : ∃ R, (if x0 = 2 ∧ xHas X a = false then some ((a : Int), x1, (f a).getD x2) else none) = R := ⟨_, rfl⟩
  have HR := Lib.hid hR
  simp only
  rw [hR]
  clear hR
  obtain ⟨N, hN⟩ : ∃ N, L.length = N := ⟨_, rfl⟩
  have HN := Lib.hid hN
  have HPG := Lib.hid hpg
  have HHE := Lib.hid hhE
  have HX := Lib.hid hx.1
  have HI := Lib.hid hi
  rw [hN] at y3 hp haL hl2
  have hp0 : (0 : Int) ≤ p := by omega
  have hpN : (p : Int) < N := by omega
  have haN : (a : Int) < N := by omega
  have ha0 : (0 : Int) ≤ a := by omega
  clear hask hi hr hhd hchk hhE hpg hT hx hN
  go_enter Try.func42, Try.ntmps42
  go_wp2_with fail
  refine HASK.out.mono ?_
  rintro e w1 ⟨rfl, rfl⟩
  go_wp2_with fail
  refine HPG.out.mono ?_
  rintro e w2 ⟨v2, b2, rfl, o2, h2⟩
  have h3 : Own W (b2 ++ (zs ++ (w.heap.size, .cells #[.int .i64 0, .int .i64 0, .int .i64 0] 80) :: m)) w2 := by
    rw [HI.out.eq]
    exact h2.perm (List.Perm.append_left b2 (z_bud _ _ _ _ _).symm)
  obtain ⟨g, cap, cur, rfl, -, -⟩ := o2.form (by rw [HN.out]; omega)
  have O2 := Lib.hid o2
  have hhead := Head_spec h3 (PgO.read o2 h3) (p : Int)
  rw [HHE.out] at hhead
  have HHEAD := Lib.hid hhead
  clear h2 o2 hhead y0 y1 y2 y3 y4
  rw [HN.out] at HHEAD ⊢
  go_wp2_with fail
  refine HHEAD.out.mono ?_
  rintro e w3 ⟨rfl, h4⟩
  obtain ⟨c0, c1, c2, -, -, -⟩ := pg_cells O2.out h4 rfl rfl HX.out
  simp only at c0 c1 c2
  have h5 : Own W (zs ++ (w.heap.size, .cells #[.int .i64 0, .int .i64 0, .int .i64 0] 80) :: m) w3 := h4.dropL
  have h5' := h5
  rw [HI.out.eq] at h5'
  obtain ⟨y0, y1, y2, y3, y4⟩ := zcells h5'
  have h4' := h4
  rw [HI.out.eq] at h4'
  have hhas := has_spec (h4'.perm ((List.Perm.append_left b2 (z_near _ _ _ _ _)).trans (perm_swap _ _ _))) HI.out.nr.1 (a : Int)
  rw [HI.out.nr.has] at hhas
  clear h4'
  have q0 := h5.dropL.cell List.mem_cons_self 0
  have q1 := h5.dropL.cell List.mem_cons_self 1
  have q2 := h5.dropL.cell List.mem_cons_self 2
  have f0 := h5.dropL.frozen List.mem_cons_self 0
  have f1 := h5.dropL.frozen List.mem_cons_self 1
  have f2 := h5.dropL.frozen List.mem_cons_self 2
  simp at q0 q1 q2
  by_cases hx2 : x0 = 2
  · subst hx2
    cases hb : xHas X (a : Int) with
    | true =>
      rw [hb] at hhas
      have HHAS := Lib.hid hhas
      have HBB := Lib.hid hb
      clear hhas h5' hb
      go_wp2_with fail
      refine HHAS.out.mono ?_
      rintro e w4 ⟨rfl, h6⟩
      have h7 : Own W (zs ++ (w.heap.size, .cells #[.int .i64 0, .int .i64 0, .int .i64 0] 80) :: m) w4 := by rw [HI.out.eq]; exact (h6.perm ((perm_swap _ _ _).trans (List.Perm.append_left b2 (z_near _ _ _ _ _).symm))).dropL
      clear h6 q0 q1 q2 f0 f1 f2
      have q0 := h7.dropL.cell List.mem_cons_self 0
      have q1 := h7.dropL.cell List.mem_cons_self 1
      have q2 := h7.dropL.cell List.mem_cons_self 2
      have f0 := h7.dropL.frozen List.mem_cons_self 0
      have f1 := h7.dropL.frozen List.mem_cons_self 1
      have f2 := h7.dropL.frozen List.mem_cons_self 2
      simp at q0 q1 q2
      go_wp2_with fail
      have h8 := ((h7.setIn 0 (.int .i64 0)).setIn 1 (.int .i64 0)).setIn 2 (.int .i64 0)
      have e0 := h8.dropL.cell List.mem_cons_self 0
      have e1 := h8.dropL.cell List.mem_cons_self 1
      have e2 := h8.dropL.cell List.mem_cons_self 2
      simp at e0 e1 e2
      exact bodyPost_ret (v := .tuple #[.agg #[.int .i64 0, .int .i64 0, .int .i64 0], .bool false]) (by simp [results, Try.f42, go_sem, e0, e1, e2]) rfl ⟨by rw [show R = none from by rw [← HR.out]; simp [HBB.out]]; rfl, h8.drop1⟩
    | false =>
      rw [hb] at hhas
      have HHAS := Lib.hid hhas
      have HBB := Lib.hid hb
      clear hhas h5' hb
      go_wp2_with fail
      refine HHAS.out.mono ?_
      rintro e w4 ⟨rfl, h6⟩
      have h7 : Own W (b2 ++ (zs ++ (w.heap.size, .cells #[.int .i64 0, .int .i64 0, .int .i64 0] 80) :: m)) w4 := by rw [HI.out.eq]; exact h6.perm ((perm_swap _ _ _).trans (List.Perm.append_left b2 (z_near _ _ _ _ _).symm))
      clear h6 q0 q1 q2 f0 f1 f2 c0 c1 c2
      obtain ⟨c0, c1, c2, -, -, -⟩ := pg_cells O2.out h7 rfl rfl HX.out
      simp only at c0 c1 c2
      have q0 := h7.dropL.dropL.cell List.mem_cons_self 0
      have q1 := h7.dropL.dropL.cell List.mem_cons_self 1
      have q2 := h7.dropL.dropL.cell List.mem_cons_self 2
      have f0 := h7.dropL.dropL.frozen List.mem_cons_self 0
      have f1 := h7.dropL.dropL.frozen List.mem_cons_self 1
      have f2 := h7.dropL.dropL.frozen List.mem_cons_self 2
      simp at q0 q1 q2
      have h7z : Own W ((b2 ++ zs) ++ (w.heap.size, .cells #[.int .i64 0, .int .i64 0, .int .i64 0] 80) :: m) w4 := by rw [List.append_assoc]; exact h7
      have h8 : Own W ((b2 ++ zs) ++ (w.heap.size, .cells #[.int .i64 a, .int .i64 x1, .int .i64 x2] 80) :: m) _ := (((h7z.setIn 0 (.int .i64 a)).setIn 1 (.int .i64 x1)).setIn 2 (.int .i64 x2)).drew
      have h9 := h8
      rw [List.append_assoc] at h9
      obtain ⟨-, d1, d2, -, -, -⟩ := pg_cells O2.out h9 rfl rfl HX.out
      simp only at d1 d2
      clear h7z h8
      go_wp2_with fail
      go_region_held3 (fun w' => w'.cell? ⟨g, a * 3 + 1, none⟩ = some (.int .i64 x1) ∧ w'.cell? ⟨g, a * 3 + 2, none⟩ = some (.int .i64 x2)) (first | (refine ⟨?_, ?_⟩ <;> assumption) | go_keep) (fail)
      obtain ⟨w5, hw5⟩ : ∃ w5, (((w4.setCell ⟨w.heap.size, 0, none⟩ (.int .i64 a)).setCell ⟨w.heap.size, 1, none⟩ (.int .i64 x1)).setCell ⟨w.heap.size, 2, none⟩ (.int .i64 x2)).drew = w5 := ⟨_, rfl⟩
      rw [hw5] at h9 ⊢
      clear hw5 d1 d2 c0 c1 c2 q0 q1 q2 f0 f1 f2
      have h10 : Own W (zs ++ (w.heap.size, .cells #[.int .i64 a, .int .i64 x1, .int .i64 x2] 80) :: m) w5 := h9.dropL
      have h11 := h10
      rw [HI.out.eq] at h11
      obtain ⟨y0, y1, y2, y3, y4⟩ := zcells h11
      have hmb : w5.heap[mb]? = some (.map es ck) := h11.get (List.mem_append_left _ (List.mem_cons_of_mem _ List.mem_cons_self))
      have HMB := Lib.hid hmb
      have q0 := h10.dropL.cell List.mem_cons_self 0
      have q1 := h10.dropL.cell List.mem_cons_self 1
      have q2 := h10.dropL.cell List.mem_cons_self 2
      have f0 := h10.dropL.frozen List.mem_cons_self 0
      have f1 := h10.dropL.frozen List.mem_cons_self 1
      have f2 := h10.dropL.frozen List.mem_cons_self 2
      simp at q0 q1 q2
      have hwa : (Lit.int .i64 (a : Int)).wf = true := wf_small ha0 (by omega)
      have HWA := Lib.hid hwa
      obtain ⟨fa, hfa⟩ : ∃ fa, f (a : Int) = fa := ⟨_, rfl⟩
      have hget : Hid (∀ (k : Int), (Lit.int .i64 k).wf = true → True) := fun _ _ => trivial
      have HFA := Lib.hid hfa
      clear h7 h9 h11 hmb hwa hget hfa
      cases fa with
      | none =>
        go_wp2_with (at_lookup; refine wpList_mapGet rfl _ _ rfl rfl rfl HI.out.im HMB.out HWA.out ?_; rw [HFA.out])
        have h12 := ((h10.setIn 0 (.int .i64 a)).setIn 1 (.int .i64 x1)).setIn 2 (.int .i64 x2)
        have e0 := h12.dropL.cell List.mem_cons_self 0
        have e1 := h12.dropL.cell List.mem_cons_self 1
        have e2 := h12.dropL.cell List.mem_cons_self 2
        simp at e0 e1 e2
        exact bodyPost_ret (v := .tuple #[.agg #[.int .i64 a, .int .i64 x1, .int .i64 x2], .bool true]) (by simp [results, Try.f42, go_sem, e0, e1, e2]) rfl ⟨by rw [show R = some ((a : Int), x1, x2) from by rw [← HR.out]; simp [HBB.out, HFA.out]]; rfl, h12.drop1⟩
      | some c' =>
        have h11 := h10.setIn 2 (.int .i64 c')
        go_wp2_with (at_lookup; refine wpList_mapGet rfl _ _ rfl rfl rfl HI.out.im HMB.out HWA.out ?_; rw [HFA.out])
        have h12 := ((h11.setIn 0 (.int .i64 a)).setIn 1 (.int .i64 x1)).setIn 2 (.int .i64 c')
        have e0 := h12.dropL.cell List.mem_cons_self 0
        have e1 := h12.dropL.cell List.mem_cons_self 1
        have e2 := h12.dropL.cell List.mem_cons_self 2
        simp at e0 e1 e2
        exact bodyPost_ret (v := .tuple #[.agg #[.int .i64 a, .int .i64 x1, .int .i64 c'], .bool true]) (by simp [results, Try.f42, go_sem, e0, e1, e2]) rfl ⟨by rw [show R = some ((a : Int), x1, c') from by rw [← HR.out]; simp [HBB.out, HFA.out]]; rfl, h12.drop1⟩
  · have hkb : (x0 != 2) = true := bne_iff_ne.2 hx2
    clear hhas h5'
    go_wp2_with fail
    have h8 := ((h5.setIn 0 (.int .i64 0)).setIn 1 (.int .i64 0)).setIn 2 (.int .i64 0)
    have e0 := h8.dropL.cell List.mem_cons_self 0
    have e1 := h8.dropL.cell List.mem_cons_self 1
    have e2 := h8.dropL.cell List.mem_cons_self 2
    simp at e0 e1 e2
    exact bodyPost_ret (v := .tuple #[.agg #[.int .i64 0, .int .i64 0, .int .i64 0], .bool false]) (by simp [results, Try.f42, go_sem, e0, e1, e2]) rfl ⟨by rw [show R = none from by rw [← HR.out]; simp [hx2]]; rfl, h8.drop1⟩
theorem ztag_spec (h : Own W (zs ++ m) w) (hz : ZO zb L X f n zs) (page : Int) :
    Calls Try.prog 42 #[.pointer (some ⟨zb, 0, none⟩), .int .i64 page] w fun e w' => ∃ t, e = .returned (tagV t) ∧ Hid (ZTagIs L X f page t) ∧ Own W (zs ++ m) w' := by
  by_cases hp : page < 0 ∨ (L.length : Int) ≤ page
  · exact (ztag_out h hz page hp).mono fun e w' ⟨h1, h2⟩ => ⟨none, h1, .inl ⟨hp, rfl⟩, h2⟩
  · obtain ⟨p, rfl⟩ : ∃ p : Nat, page = p := ⟨page.toNat, by omega⟩
    have hpl : p < L.length := by omega
    obtain ⟨pb, nb, nl, mb, bl, Ln, es, ck, hi⟩ := id hz
    obtain ⟨bT, hT⟩ := hi.tab
    obtain ⟨a, x, hx⟩ := blkOf hT hpl
    refine (ztag_in h hz p a x hpl hx).mono fun e w' ⟨h1, h2⟩ => ⟨_, h1, .inr ⟨p, a, x, rfl, hpl, hx, ?_⟩, h2⟩
    by_cases hc : x.1 = 2 ∧ xHas X a = false
    · exact .inr ⟨hc.1, hc.2, if_pos hc⟩
    · refine .inl ⟨?_, if_neg hc⟩
      by_cases hx2 : x.1 = 2
      · right
        cases hb : xHas X (a : Int) with
        | true => rfl
        | false => exact absurd ⟨hx2, hb⟩ hc
      · exact .inl hx2
end
end Go.Proofs.Ytljcndcmdphmgaa
