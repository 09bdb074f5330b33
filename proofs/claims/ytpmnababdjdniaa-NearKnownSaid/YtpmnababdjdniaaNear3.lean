/-
  What the methods of near.Near do, on: Put, New.
-/
import Derived.Test.YtpmnababdjdniaaNear2
namespace Go.Proofs.Ytpmnababdjdniaa
open Go.RowKit
section
variable {T : TypeId} {W : World} {m bs : List (Nat × Obj)} {w : World} {b bl : Nat} {lim : Int} {L : List NL}

theorem nrR_mem (bs m : List (Nat × Obj)) (i : Nat) : (b, .cells #[.slice (some ⟨bl, 0, none⟩) L.length L.length, .int .i64 lim] T) ∈ bs ++ (nrRest T b bl lim L i ++ m) ∧ (bl, .cells (L.map (·.v)).toArray 49) ∈ bs ++ (nrRest T b bl lim L i ++ m) :=
  ⟨List.mem_append_right _ (List.mem_append_left _ List.mem_cons_self), List.mem_append_right _ (List.mem_append_left _ (List.mem_cons_of_mem _ List.mem_cons_self))⟩

theorem nrIn2 {i : Nat} {x : NL} (hx : L[i]? = some x) {y : NL} (h : Own W (y.bs ++ (bs ++ (nrRest T b bl lim L i ++ m))) w) :
    Own W (bs ++ (nrBlocks T b bl lim (L.set i y) ++ m)) (w.setCell ⟨bl, i, none⟩ y.v) :=
  (nrIn hx (m := bs ++ m) (h.perm (List.Perm.append_left _ (perm_swap _ _ _)))).swap
theorem nrR_cell {i : Nat} {x : NL} (hx : L[i]? = some x) (h : Own W (bs ++ (nrRest T b bl lim L i ++ m)) w) : w.cell? ⟨bl, i, none⟩ = some x.v := by
  rw [h.cell (nrR_mem bs m i).2]; simp [hx]
theorem nrR_free {i : Nat} (j : Nat) (h : Own W (bs ++ (nrRest T b bl lim L i ++ m)) w) : w.frozen? ⟨bl, j, none⟩ = false := h.frozen (nrR_mem bs m i).2 j
theorem src_none (w : World) (g : Nat) : IntsSrc w (.slice (some ⟨g, 0, none⟩) 0 0) [] := ⟨rfl, .inr ⟨_, _, rfl, fun j u hj => by simp [ints] at hj⟩⟩
/-- how many go, and what stays -/
def nrK (lim : Int) (n : Nat) : Nat := if lim < n then (n + 1) / 2 else 0
theorem nrK_le (lim : Int) (n : Nat) : nrK lim n ≤ (n + 1) / 2 := by unfold nrK; split <;> omega

/-- what a Put that takes a page does -/
def NrPut (W : World) (m : List (Nat × Obj)) (T : TypeId) (b bl : Nat) (lim : Int) (L : List NL) (i : Nat) (xs : List Int) (p : Int) (e : Ending) (w' : World) : Prop :=
  ∃ vr bsr y, e = .returned (.tuple #[vr, .int .i64 0]) ∧ IntsOwn false vr ((xs ++ [p]).take (nrK lim (xs.length + 1))) bsr ∧ NL.ok y ∧ y.xs = (xs ++ [p]).drop (nrK lim (xs.length + 1)) ∧ Own W (bsr ++ (nrBlocks T b bl lim (L.set i y) ++ m)) w'

theorem src_drop {ex : Bool} {v : Value} {l : List Int} {g cap k : Nat} (hs : IntsOwn ex v l bs) (hO : Own W (bs ++ m) w) (hv : v = .slice (some ⟨g, 0, none⟩) l.length cap) (hk : k ≤ l.length) :
    IntsSrc w (.slice (some ⟨g, k, none⟩) (l.length - k) (cap - k)) (l.drop k) := by
  have hl : (l.drop k).length = l.length - k := List.length_drop
  unfold IntsSrc Src
  rw [hl]
  refine ⟨by rw [ints_len, hl]; omega, .inr ⟨_, _, rfl, fun j u hj => ?_⟩⟩
  rw [add_lit]
  refine SlO.cell hs hO hv ?_
  rw [← ints_drop, List.getElem?_drop] at hj
  exact hj

set_option maxRecDepth 100000 in
set_option maxHeartbeats 1000000 in
theorem put_yes (h : Own W (nrBlocks T b bl lim L ++ m) w) (ok : NrOk lim L) (i : Nat) {x : NL} (hx : L[i]? = some x) (p : Int) (h0 : 0 ≤ p) (h1 : p < 1024) (hhas : nrHas L p = false) :
    Calls Try.prog 30 #[.pointer (some ⟨b, 0, none⟩), .int .i64 i, .int .i64 p] w (NrPut W m T b bl lim L i x.xs p) := by
  have hi : i < L.length := (List.getElem?_eq_some_iff.1 hx).1
  have hL0 : (((L.length : Nat) : Int) == 0) = false := by rw [beq_eq_false_iff_ne]; omega
  have hl8 := ok.1
  have hl64 := (ok.at_ hx).2
  have hlim := ok.2.2.1
  have hlim0 := ok.2.1
  have c0 := nrHead h
  go_enter Try.func30, Try.ntmps30
  go_wp2_with (first | (go_at_call 44; refine (list_in h ok.1 i hi).mono ?_; rintro e w' ⟨rfl, rfl⟩) | fail)
  refine (has_spec h ok p).mono ?_
  rintro e w1 ⟨rfl, h2⟩
  rw [hhas]
  have ho := nrOut h2 hx
  have cx := nrCell h2 hx
  have hok : IntsOwn true x.v x.xs x.bs := (ok.at_ hx).1
  have hp1 : IntsSrc (w1.alloc (.cells #[.int .i64 p] 3)) (.slice (some ⟨w1.heap.size, 0, none⟩) 1 1) [p] := by
    refine ⟨rfl, .inr ⟨_, _, rfl, fun j u hj => ?_⟩⟩
    rw [add_lit0]
    match j, hj with
    | 0, hj => simp [ints] at hj; subst hj; simp
    | j + 1, hj => simp [ints] at hj
  have hX := Lib.hid hx
  obtain ⟨A, cap, hv, hnc, hcm⟩ := SlO.slice hok
  rw [hv] at cx hok
  unfold maxLen at hcm
  clear hx c0 hv
  have hlen1 : x.xs.length + [p].length ≤ 60000 := by simp; omega
  generalize hK : nrK lim (x.xs.length + 1) = K
  have hKle : K ≤ x.xs.length + 1 := by have := nrK_le lim (x.xs.length + 1); omega
  by_cases hgt : lim < (x.xs.length : Int) + 1
  · have hKi : ((x.xs.length : Int) + 1 + 1) / 2 = (K : Nat) := by rw [← hK, nrK, if_pos (by omega)]; omega
    have HKI := Lib.hid hKi
    have HK := Lib.hid hK
    clear hKi hK
    go_upto_region 12 with (at_builtin; refine wpList_app_ints (by rfl) _ _ (by rfl) (by rfl) (by rfl) hok (ho.alloc _) hp1 hlen1 ?_; intro v' w2 bs' h3 h4 h5; obtain ⟨g, c2, cur, rfl, _, hn2, hc2, _, _⟩ := SlO.form h3 (by simp); clear h5; have cL : w2.cell? ⟨b, 1, none⟩ = some (.int .i64 lim) := (by rw [h4.cell (nrR_mem bs' m i).1]; rfl); have H3 := Lib.hid h3; clear h3; simp only [List.length_append, List.length_cons, List.length_nil, Nat.zero_add] at hn2)
    rw [HKI.out]
    by_cases hck : c2 = K
    · have hn0 : x.xs.length + 1 = K := by have := HK.out; unfold nrK at this; split at this <;> omega
      have hd : (x.xs ++ [p]).drop K = [] := List.drop_of_length_le (by simp; omega)
      have HD := Lib.hid hd
      clear hd
      go_wp2_with (go_at_call 45; refine (clone_spec h4 (src_none w2 g) (by simp)).mono ?_; rintro e w3 ⟨v3, bs3, rfl, h6, h7⟩; have cx3 := nrR_cell hX.out h7.dropL; have fx3 := nrR_free i h7.dropL; obtain ⟨A3, c3, hv3, hl3, hm3⟩ := SlO.slice h6; subst hv3; have H6 := Lib.hid h6; clear h6)
      go_ret2
      refine ⟨.slice (some ⟨g, 0, none⟩) K K, bs', ⟨_, (x.xs ++ [p]).drop K, bs3⟩, rfl, ?_, ?_, by rw [HK.out], nrIn2 hX.out (y := ⟨_, (x.xs ++ [p]).drop K, bs3⟩) h7⟩
      · have := SlO.cut H3.out rfl (k := K) (by simp; omega)
        rw [Nat.mul_one, ints_take] at this
        have hlk : ((x.xs ++ [p]).take K).length = K := by simp; omega
        rw [HK.out]
        unfold IntsOwn
        rw [hlk]
        exact this
      · rw [HD.out]; exact H6.out
    · have hsd := src_drop H3.out h4 rfl (k := K) (by simp; omega)
      have hlk : ((x.xs ++ [p]).drop K).length ≤ 60000 := by simp; omega
      rw [show (x.xs ++ [p]).length - K = x.xs.length + 1 - K from by simp] at hsd
      go_wp2_with (go_at_call 45; refine (clone_spec h4 hsd hlk).mono ?_; rintro e w3 ⟨v3, bs3, rfl, h6, h7⟩; have cx3 := nrR_cell hX.out h7.dropL; have fx3 := nrR_free i h7.dropL; obtain ⟨A3, c3, hv3, hl3, hm3⟩ := SlO.slice h6; subst hv3; have H6 := Lib.hid h6; clear h6)
      go_ret2
      refine ⟨.slice (some ⟨g, 0, none⟩) K K, bs', ⟨_, (x.xs ++ [p]).drop K, bs3⟩, rfl, ?_, ?_, by rw [HK.out], nrIn2 hX.out (y := ⟨_, (x.xs ++ [p]).drop K, bs3⟩) h7⟩
      · have := SlO.cut H3.out rfl (k := K) (by simp; omega)
        rw [Nat.mul_one, ints_take] at this
        have hlk : ((x.xs ++ [p]).take K).length = K := by simp; omega
        rw [HK.out]
        unfold IntsOwn
        rw [hlk]
        exact this
      · have e1 : x.xs.length + 1 - K = ((x.xs ++ [p]).drop K).length := by simp
        show IntsOwn true (.slice A3 (x.xs.length + 1 - K) c3) _ bs3
        rw [e1]; exact H6.out
  · have hKi : K = 0 := by rw [← hK, nrK, if_neg (by omega)]
    subst hKi
    have HK := Lib.hid hK
    clear hK
    go_upto_region 12 with (at_builtin; refine wpList_app_ints (by rfl) _ _ (by rfl) (by rfl) (by rfl) hok (ho.alloc _) hp1 hlen1 ?_; intro v' w2 bs' h3 h4 h5; obtain ⟨g, c2, cur, rfl, _, hn2, hc2, _, _⟩ := SlO.form h3 (by simp); clear h5; have cL : w2.cell? ⟨b, 1, none⟩ = some (.int .i64 lim) := (by rw [h4.cell (nrR_mem bs' m i).1]; rfl); have H3 := Lib.hid h3; clear h3; simp only [List.length_append, List.length_cons, List.length_nil, Nat.zero_add] at hn2)
    have hsd := src_drop H3.out h4 rfl (k := 0) (by simp)
    have hlk : ((x.xs ++ [p]).drop 0).length ≤ 60000 := by simp; omega
    rw [show (x.xs ++ [p]).length - 0 = x.xs.length + 1 from by simp, Nat.sub_zero] at hsd
    go_wp2_with (go_at_call 45; refine (clone_spec h4 hsd hlk).mono ?_; rintro e w3 ⟨v3, bs3, rfl, h6, h7⟩; have cx3 := nrR_cell hX.out h7.dropL; have fx3 := nrR_free i h7.dropL; obtain ⟨A3, c3, hv3, hl3, hm3⟩ := SlO.slice h6; subst hv3; have H6 := Lib.hid h6; clear h6)
    go_ret2
    refine ⟨.slice (some ⟨g, 0, none⟩) 0 0, bs', ⟨_, (x.xs ++ [p]).drop 0, bs3⟩, rfl, ?_, ?_, by rw [HK.out], nrIn2 hX.out (y := ⟨_, (x.xs ++ [p]).drop 0, bs3⟩) h7⟩
    · have := SlO.cut H3.out rfl (k := 0) (by simp)
      rw [Nat.mul_one, ints_take] at this
      have hlk : ((x.xs ++ [p]).take 0).length = 0 := by simp
      rw [HK.out]
      unfold IntsOwn
      rw [hlk]
      exact this
    · have e1 : x.xs.length + 1 = ((x.xs ++ [p]).drop 0).length := by simp
      show IntsOwn true (.slice A3 (x.xs.length + 1) c3) _ bs3
      rw [e1]; exact H6.out

set_option maxHeartbeats 1000000 in
theorem put_range (h : Own W (nrBlocks T b bl lim L ++ m) w) (ok : NrOk lim L) (hl1 : 1 ≤ L.length) (cpu p : Int) (hb : cpu < 0 ∨ L.length ≤ cpu ∨ p < 0 ∨ 1024 ≤ p) :
    Calls Try.prog 30 #[.pointer (some ⟨b, 0, none⟩), .int .i64 cpu, .int .i64 p] w fun e w' => e = .returned (.tuple #[.slice none 0 0, .int .i64 9]) ∧ w = w' := by
  have hL0 : (((L.length : Nat) : Int) == 0) = false := by rw [beq_eq_false_iff_ne]; omega
  have c0 := nrHead h
  by_cases hc : cpu < 0 ∨ L.length ≤ cpu
  · go_enter Try.func30, Try.ntmps30
    go_wp2_with (first | (go_at_call 44; refine (list_out h ok.1 cpu hc).mono ?_; rintro e w' ⟨rfl, rfl⟩) | fail)
    go_ret2
    exact ⟨rfl, rfl⟩
  · obtain ⟨i, rfl⟩ := Int.eq_ofNat_of_zero_le (show 0 ≤ cpu by omega)
    have hp : p < 0 ∨ 1024 ≤ p := by omega
    have hi : i < L.length := by omega
    clear hc hb
    go_enter Try.func30, Try.ntmps30
    go_wp2_with (first | (go_at_call 44; refine (list_in h ok.1 i hi).mono ?_; rintro e w' ⟨rfl, rfl⟩) | fail)
    all_goals first
      | (go_ret2; exact ⟨rfl, rfl⟩)
      | (exfalso; omega)
set_option maxHeartbeats 1000000 in
theorem put_block (h : Own W (nrBlocks T b bl lim L ++ m) w) (ok : NrOk lim L) (i : Nat) (hi : i < L.length) (p : Int) (h0 : 0 ≤ p) (h1 : p < 1024) (hhas : nrHas L p = true) :
    Calls Try.prog 30 #[.pointer (some ⟨b, 0, none⟩), .int .i64 i, .int .i64 p] w fun e w' => e = .returned (.tuple #[.slice none 0 0, .int .i64 60]) ∧ Own W (nrBlocks T b bl lim L ++ m) w' := by
  have hL0 : (((L.length : Nat) : Int) == 0) = false := by rw [beq_eq_false_iff_ne]; omega
  have c0 := nrHead h
  go_enter Try.func30, Try.ntmps30
  go_wp2_with (first | (go_at_call 44; refine (list_in h ok.1 i hi).mono ?_; rintro e w' ⟨rfl, rfl⟩) | (go_at_call 33; refine (has_spec h ok p).mono ?_; rintro e w1 ⟨rfl, h2⟩; rw [hhas]))
  go_ret2
  exact ⟨rfl, h2⟩
end
/-- so many lists that are none -/
theorem nil_cells (n : Nat) : ((List.replicate n nlNil).map (·.v)).toArray = Array.replicate n (Value.slice none 0 0) := by
  apply Array.ext'
  simp [nlNil]
theorem sl_info : (Try.prog.info? 49).map (fun i => (i.zero, i.size, i.bytes)) = some (some (.slice none 0 0), 1, 24) := by kernel_rfl
set_option maxRecDepth 10000 in
set_option maxHeartbeats 400000 in
theorem nrNew_ok {W : World} {m : List (Nat × Obj)} {w : World} (h : Own W m w) (k lim : Int) (h1 : 1 ≤ k) (h8 : k ≤ 8) (hl0 : 0 ≤ lim) (hl : lim ≤ 64) :
    Calls Try.prog 23 #[.int .i64 k, .int .i64 lim] w fun e w' => ∃ b bl, e = .returned (.tuple #[.pointer (some ⟨b, 0, none⟩), .int .i64 0]) ∧ Own W (nrBlocks 72 b bl lim (List.replicate k.toNat nlNil) ++ m) w' := by
  obtain ⟨n, rfl⟩ := Int.eq_ofNat_of_zero_le (show 0 ≤ k from by omega)
  rw [Int.toNat_natCast]
  obtain ⟨i, hi, hz, hs, hb⟩ := info_get sl_info
  have hmk := fun W => run_make_rowN (P := Try.prog) 70 49 i _ Try.underlying70 hi hz .i64 .i64 n n (Nat.le_refl _) (by rw [hb]; omega) (by omega) W
  rw [hs, madeCells_const _ (.slice none 0 0) _ (by simp [Value.cells]) (by intro j hj; obtain rfl : j = 0 := (by simp [Value.cells] at hj; omega); rfl), Nat.mul_one, ← nil_cells] at hmk
  obtain ⟨cs, hcs⟩ : ∃ cs, cs = ((List.replicate n nlNil).map (·.v)).toArray := ⟨_, rfl⟩
  rw [← hcs] at hmk
  have HC := Lib.hid hcs
  clear hcs
  clear hi hz hs hb
  go_enter Try.func23, Try.ntmps23
  go_wp2_with fail
  go_ret2
  refine ⟨w.heap.size + 1, w.heap.size, rfl, ?_⟩
  have h2 := (h.new (.cells cs 49)).new (.cells #[.slice (some ⟨w.heap.size, 0, none⟩) n n, .int .i64 lim] 72)
  have hfm : (List.replicate n nlNil).flatMap (·.bs) = [] := by rw [List.flatMap_eq_nil_iff]; intro x hx; rw [List.eq_of_mem_replicate hx]; rfl
  unfold nrBlocks
  rw [hfm, List.length_replicate, ← HC.out]
  simpa using h2
set_option maxHeartbeats 400000 in
theorem nrNew_bad (k lim : Int) (hn : k < 1 ∨ 8 < k ∨ lim < 0 ∨ 64 < lim) (w : World) :
    Calls Try.prog 23 #[.int .i64 k, .int .i64 lim] w fun e w' => e = .returned (.tuple #[.pointer none, .int .i64 2]) ∧ w = w' := by
  go_enter Try.func23, Try.ntmps23
  go_wp2
  all_goals first
    | (go_ret2; exact ⟨rfl, rfl⟩)
    | (exfalso; omega)
end Go.Proofs.Ytpmnababdjdniaa
