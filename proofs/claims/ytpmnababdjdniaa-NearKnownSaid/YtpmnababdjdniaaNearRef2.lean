/-
  What the functions of wainscotref07 do, on: Put, Take, Drain, List, New.
-/
import Derived.Test.YtpmnababdjdniaaNearRef
namespace Go.Proofs.Ytpmnababdjdniaa.nref
open Go.RowKit
section
variable {T : TypeId} {W : World} {m : List (Nat × Obj)} {w : World} {b bl : Nat} {lim : Int} {L : List NL}

/-- a list's slice is stored: what the old one owned is kept beside -/
theorem replaceKeep {i : Nat} {x : NL} (hx : L[i]? = some x) {y : NL} (h : Own W (y.bs ++ (nrBlocks T b bl lim L ++ m)) w) :
    Own W (nrBlocks T b bl lim (L.set i y) ++ (x.bs ++ m)) (w.setCell ⟨bl, i, none⟩ y.v) := by
  refine nrIn hx (m := x.bs ++ m) (h.perm (List.Perm.append_left _ ?_))
  exact (nr_perm L hx).trans (perm_swap _ _ _)
theorem replace {i : Nat} {x : NL} (hx : L[i]? = some x) {y : NL} (h : Own W (y.bs ++ (nrBlocks T b bl lim L ++ m)) w) :
    Own W (nrBlocks T b bl lim (L.set i y) ++ m) (w.setCell ⟨bl, i, none⟩ y.v) := (replaceKeep hx h).swap.dropL
theorem nrNe (h : Own W (nrBlocks T b bl lim L ++ m) w) : b ≠ bl := by
  have := h.nd
  simp only [nrBlocks, List.cons_append, List.map_cons, List.nodup_cons] at this
  intro he
  exact this.1 (he ▸ List.mem_cons_self)
theorem src_take {ex : Bool} {v : Value} {l : List Int} {bs : List (Nat × Obj)} {g cap k : Nat} (hs : IntsOwn ex v l bs) (hO : Own W (bs ++ m) w) (hv : v = .slice (some ⟨g, 0, none⟩) l.length cap) (hk : k ≤ l.length) :
    IntsSrc w (.slice (some ⟨g, 0, none⟩) k cap) (l.take k) := by
  have hl : (l.take k).length = k := by simp; omega
  have := SlO.src (SlO.shorter hs hv hk) hO
  rw [Nat.mul_one, ints_take] at this
  unfold IntsSrc
  rw [hl]
  exact this

set_option maxHeartbeats 1000000 in
theorem put_range (h : Own W (nrBlocks T b bl lim L ++ m) w) (cpu p : Int) (hb : cpu < 0 ∨ L.length ≤ cpu ∨ p < 0 ∨ 1024 ≤ p) :
    Calls Try.prog 40 #[.pointer (some ⟨b, 0, none⟩), .int .i64 cpu, .int .i64 p] w fun e w' => e = .returned (.tuple #[.slice none 0 0, .int .i64 9]) ∧ w = w' := by
  by_cases hc : cpu < 0 ∨ L.length ≤ cpu
  · go_enter Try.func40, Try.ntmps40
    go_wp2_with (first | (go_at_call 46; refine (has_out h cpu hc).mono ?_; rintro e w' ⟨rfl, rfl⟩) | fail)
    go_ret2
    exact ⟨rfl, rfl⟩
  · obtain ⟨i, rfl⟩ := Int.eq_ofNat_of_zero_le (show 0 ≤ cpu by omega)
    have hp : p < 0 ∨ 1024 ≤ p := by omega
    have hi : i < L.length := by omega
    clear hc hb
    go_enter Try.func40, Try.ntmps40
    go_wp2_with (first | (go_at_call 46; refine (has_in h i hi).mono ?_; rintro e w' ⟨rfl, rfl⟩) | fail)
    all_goals first
      | (go_ret2; exact ⟨rfl, rfl⟩)
      | (exfalso; omega)
set_option maxHeartbeats 1000000 in
theorem put_block (h : Own W (nrBlocks T b bl lim L ++ m) w) (ok : NrOk lim L) (i : Nat) (hi : i < L.length) (p : Int) (h0 : 0 ≤ p) (h1 : p < 1024) (hhas : nrHas L p = true) :
    Calls Try.prog 40 #[.pointer (some ⟨b, 0, none⟩), .int .i64 i, .int .i64 p] w fun e w' => e = .returned (.tuple #[.slice none 0 0, .int .i64 60]) ∧ w = w' := by
  go_enter Try.func40, Try.ntmps40
  go_wp2_with (first | (go_at_call 46; refine (has_in h i hi).mono ?_; rintro e w' ⟨rfl, rfl⟩) | (go_at_call 43; refine (Has_spec h ok p).mono ?_; rintro e w1 ⟨rfl, rfl⟩; rw [hhas]))
  go_ret2
  exact ⟨rfl, rfl⟩

set_option maxRecDepth 100000 in
set_option maxHeartbeats 1000000 in
theorem put_yes (h : Own W (nrBlocks T b bl lim L ++ m) w) (ok : NrOk lim L) (i : Nat) {x : NL} (hx : L[i]? = some x) (p : Int) (h0 : 0 ≤ p) (h1 : p < 1024) (hhas : nrHas L p = false) :
    Calls Try.prog 40 #[.pointer (some ⟨b, 0, none⟩), .int .i64 i, .int .i64 p] w (NrPut W m T b bl lim L i x.xs p) := by
  have hi : i < L.length := (List.getElem?_eq_some_iff.1 hx).1
  have hl8 := ok.1
  have hl64 := (ok.at_ hx).2
  have hlim := ok.2.2.1
  have hlim0 := ok.2.1
  have c0 := nrHead h
  have cx := nrCell h hx
  have hsrc : IntsSrc w x.v x.xs := SlO.src (ok.at_ hx).1 (nrOut h hx)
  have hok : IntsOwn true x.v x.xs x.bs := (ok.at_ hx).1
  obtain ⟨A, cap, hv, hnc, hcm⟩ := SlO.slice hok
  rw [hv] at cx hsrc
  have hX := Lib.hid hx
  clear hx hok hv
  have hlen1 : x.xs.length + [p].length ≤ 60000 := by simp; omega
  go_enter Try.func40, Try.ntmps40
  go_upto_region 6 with (first | (go_at_call 46; refine (has_in h i hi).mono ?_; rintro e w' ⟨rfl, rfl⟩) | (go_at_call 43; refine (Has_spec h ok p).mono ?_; rintro e w1 ⟨rfl, rfl⟩; rw [hhas]) |
    (go_at_call 47; refine (copy_spec h hsrc (by omega)).mono ?_; rintro e w1 ⟨v1, bs1, rfl, h2, h3⟩) |
    (at_builtin; refine wpList_app_ints (by rfl) _ _ (by rfl) (by rfl) (by rfl) h2 (h3.alloc _) (src_one w1 p) hlen1 ?_; intro v' w2 bs' h4 h5 h6; obtain ⟨g, c2, cur, rfl, _, hn2, hc2, _, _⟩ := SlO.form h4 (by simp); clear h6))
  have c2i := nrCell h5.dropL hX.out
  have f2i := nrFree h5.dropL i
  have c20 := nrHead h5.dropL
  have hlt2 := nrLt h5.dropL
  have hy : NL.ok ⟨.slice (some ⟨g, 0, none⟩) (x.xs.length + 1) c2, x.xs ++ [p], bs'⟩ := by
    have e1 : x.xs.length + 1 = (x.xs ++ [p]).length := by simp
    show IntsOwn true (.slice (some ⟨g, 0, none⟩) (x.xs.length + 1) c2) _ bs'
    rw [e1]; exact h4
  have h6 := replaceKeep hX.out (y := ⟨.slice (some ⟨g, 0, none⟩) (x.xs.length + 1) c2, x.xs ++ [p], bs'⟩) h5
  have hL2 : (L.set i ⟨.slice (some ⟨g, 0, none⟩) (x.xs.length + 1) c2, x.xs ++ [p], bs'⟩)[i]? = some ⟨.slice (some ⟨g, 0, none⟩) (x.xs.length + 1) c2, x.xs ++ [p], bs'⟩ := by simp [hi]
  generalize hw3 : w2.setCell ⟨bl, i, none⟩ (.slice (some ⟨g, 0, none⟩) (x.xs.length + 1) c2) = w3 at h6
  have hl3 := nrLim h6
  have c30 := nrHead h6
  have ci3 := nrCell h6 hL2
  have fi3 := nrFree h6 i
  rw [List.length_set] at c30
  have Hw3 := Lib.hid hw3
  have HY := Lib.hid hy
  have HL2 := Lib.hid hL2
  have H4 := Lib.hid h4
  simp only [List.length_append, List.length_cons, List.length_nil, Nat.zero_add] at hn2
  unfold maxLen at hc2
  clear hw3 hy hL2 h4 hsrc c0 cx
  go_upto_region 7 with fail
  rw [Hw3.out]
  clear c2i f2i c20
  by_cases hgt : lim < (x.xs.length : Int) + 1
  · generalize hK : nrK lim (x.xs.length + 1) = K
    have hKle : K ≤ x.xs.length + 1 := by have := nrK_le lim (x.xs.length + 1); omega
    have hKi : ((x.xs.length : Int) + 1 + 1) / 2 = (K : Nat) := by rw [← hK, nrK, if_pos (by omega)]; omega
    have HKI := Lib.hid hKi
    have HK := Lib.hid hK
    clear hKi hK
    go_upto_region 10 with fail
    rw [HKI.out]
    have hbb : b ≠ bl := nrNe h6
    have k0 : (0 : Int) ≤ (K : Int) := by omega
    have k1 : (K : Int) ≤ (x.xs.length : Int) + 1 := by omega
    have k2 : (x.xs.length : Int) + 1 ≤ (c2 : Int) := by omega
    have i0 : (0 : Int) ≤ (i : Int) := by omega
    have i1 : (i : Int) < (L.length : Int) := by omega
    have hO6 : Own W (bs' ++ (nrRest T b bl lim (L.set i ⟨.slice (some ⟨g, 0, none⟩) (x.xs.length + 1) c2, x.xs ++ [p], bs'⟩) i ++ (x.bs ++ m))) w3 := nrOut h6 HL2.out
    have hlk : ((x.xs ++ [p]).drop K).length ≤ 60000 := by simp; omega
    have hlt4 : ((x.xs ++ [p]).take K).length ≤ 60000 := by simp; omega
    by_cases hck : c2 = K
    · have hn0 : x.xs.length + 1 = K := by have := HK.out; unfold nrK at this; split at this <;> omega
      have hd : (x.xs ++ [p]).drop K = [] := List.drop_of_length_le (by simp; omega)
      rw [hd] at hlk
      have HD := Lib.hid hd
      clear hd hn0
      have hck' := hck.symm
      clear hck
      subst hck'
      go_region_held3 (fun w' => w'.cell? ⟨b, 0, none⟩ = some (.slice (some ⟨bl, 0, none⟩) L.length L.length)) (first | assumption | (exact (World.cell?_of_block (Below.heap_setCell _ _ _ _ hbb)).trans (by assumption)) | go_keep)
        (first | (go_at_call 47; refine (copy_spec h6.drew (src_none _ g) hlk).mono ?_; rintro e w4 ⟨v3, bs3, rfl, h7, h8⟩; have c40 := nrHead h8.dropL; rw [List.length_set] at c40; have ci4 := nrCell h8.dropL HL2.out; have fi4 := nrFree h8.dropL i; obtain ⟨A3, c3, rfl, hl3a, hm3a⟩ := SlO.slice h7))
      have h9 := replaceKeep HL2.out (y := ⟨.slice A3 0 c3, (x.xs ++ [p]).drop K, bs3⟩) h8
      rw [List.set_set] at h9
      generalize hw5 : w4.setCell ⟨bl, i, none⟩ (.slice A3 0 c3) = w5 at h9 ⊢
      have hst := src_take H4.out h9.swap rfl (k := K) (by simp; omega)
      have H7 := Lib.hid h7
      have Hw5 := Lib.hid hw5
      clear hw5 h7 h8 c40 ci4 fi4
      go_wp2_with (go_at_call 47; refine (copy_spec h9 hst hlt4).mono ?_; rintro e w6 ⟨v4, bs4, rfl, h10, h11⟩)
      go_ret2
      refine ⟨v4, bs4, ⟨.slice A3 0 c3, (x.xs ++ [p]).drop K, bs3⟩, rfl, by rw [HK.out]; exact h10.weak, ?_, by rw [HK.out], h11.sub ((List.Sublist.refl _).append ((List.Sublist.refl _).append ((List.sublist_append_right _ _).trans (List.sublist_append_right _ _))))⟩
      rw [HD.out]; exact H7.out
    · have hsd := (src_drop H4.out hO6 rfl (k := K) (by simp; omega))
      rw [show (x.xs ++ [p]).length - K = x.xs.length + 1 - K from by simp] at hsd
      go_region_held3 (fun w' => w'.cell? ⟨b, 0, none⟩ = some (.slice (some ⟨bl, 0, none⟩) L.length L.length)) (first | assumption | (exact (World.cell?_of_block (Below.heap_setCell _ _ _ _ hbb)).trans (by assumption)) | go_keep)
        (first | (go_at_call 47; refine (copy_spec h6.drew hsd hlk).mono ?_; rintro e w4 ⟨v3, bs3, rfl, h7, h8⟩; have c40 := nrHead h8.dropL; rw [List.length_set] at c40; have ci4 := nrCell h8.dropL HL2.out; have fi4 := nrFree h8.dropL i; obtain ⟨A3, c3, rfl, hl3a, hm3a⟩ := SlO.slice h7))
      have h9 := replaceKeep HL2.out (y := ⟨.slice A3 (x.xs.length + 1 - K) c3, (x.xs ++ [p]).drop K, bs3⟩) h8
      rw [List.set_set] at h9
      generalize hw5 : w4.setCell ⟨bl, i, none⟩ (.slice A3 (x.xs.length + 1 - K) c3) = w5 at h9 ⊢
      have hst := src_take H4.out h9.swap rfl (k := K) (by simp; omega)
      have H7 := Lib.hid h7
      have Hw5 := Lib.hid hw5
      clear hw5 h7 h8 c40 ci4 fi4
      go_wp2_with (go_at_call 47; refine (copy_spec h9 hst hlt4).mono ?_; rintro e w6 ⟨v4, bs4, rfl, h10, h11⟩)
      go_ret2
      refine ⟨v4, bs4, ⟨.slice A3 (x.xs.length + 1 - K) c3, (x.xs ++ [p]).drop K, bs3⟩, rfl, by rw [HK.out]; exact h10.weak, ?_, by rw [HK.out], h11.sub ((List.Sublist.refl _).append ((List.Sublist.refl _).append ((List.sublist_append_right _ _).trans (List.sublist_append_right _ _))))⟩
      have e1 : x.xs.length + 1 - K = ((x.xs ++ [p]).drop K).length := by simp
      show IntsOwn true (.slice A3 (x.xs.length + 1 - K) c3) _ bs3
      rw [e1]; exact H7.out
  · go_wp2_with fail
    go_ret2
    refine ⟨.slice none 0 0, [], _, rfl, ?_, HY.out, ?_, h6.swap.dropL⟩
    · rw [show nrK lim (x.xs.length + 1) = 0 from if_neg (by omega)]
      exact SlO.nil _ _ _
    · rw [show nrK lim (x.xs.length + 1) = 0 from if_neg (by omega)]
      rfl

set_option maxRecDepth 10000 in
set_option maxHeartbeats 1000000 in
theorem take_yes (h : Own W (nrBlocks T b bl lim L ++ m) w) (ok : NrOk lim L) (i : Nat) {x : NL} (hx : L[i]? = some x) {p : Int} {ys : List Int} (hp : x.xs = ys ++ [p]) :
    Calls Try.prog 41 #[.pointer (some ⟨b, 0, none⟩), .int .i64 i] w fun e w' => e = .returned (.tuple #[.int .i64 p, .bool true]) ∧ ∃ y, y.ok ∧ y.xs = ys ∧ Own W (nrBlocks T b bl lim (L.set i y) ++ m) w' := by
  have hi : i < L.length := (List.getElem?_eq_some_iff.1 hx).1
  have hlen : x.xs.length = ys.length + 1 := by rw [hp]; simp
  have hl64 := (ok.at_ hx).2
  have hl8 := ok.1
  have ho := nrOut h hx
  have hok : IntsOwn true x.v x.xs x.bs := (ok.at_ hx).1
  obtain ⟨g, cap, cur, hv, hb, hnc, hcm, hcs, htk⟩ := SlO.form hok (by omega)
  have cx := nrCell h hx
  have fx := nrFree h i
  have c0 := nrHead h
  have hbb := nrNe h
  have hsh := SlO.shorter hok hv (k := ys.length) (by omega)
  rw [Nat.mul_one, ints_take, hp, List.take_left] at hsh
  have hin := nrIn (y := ⟨.slice (some ⟨g, 0, none⟩) ys.length cap, ys, x.bs⟩) hx ho
  have cl : (w.setCell ⟨bl, i, none⟩ (.slice (some ⟨g, 0, none⟩) ys.length cap)).cell? ⟨g, ys.length, none⟩ = some (.int .i64 p) := by
    have hgl : g ≠ bl := by
      rw [hb] at ho
      exact fun he => Own.ne ho (b' := bl) (o' := .cells (L.map (·.v)).toArray 49) (by
        have := (nrR_mem (T := T) (b := b) (bl := bl) (lim := lim) (L := L) [] m i).2
        simpa using this) he.symm
    rw [World.cell?_of_block (w := w) (Below.heap_setCell w ⟨bl, i, none⟩ _ g hgl)]
    exact SlO.cell hok ho hv (ints_get (by rw [hp]; simp))
  rw [hv, hlen] at cx
  have HS := Lib.hid hsh
  have HP := Lib.hid hp
  have hwr : IntKind.i64.wrap ((ys.length : Int) + 1 - 1) = (ys.length : Int) := by rw [Int.add_sub_cancel]; exact IntWalk.i64_in _ ⟨by omega, by omega⟩
  have hwr2 : IntKind.i64.wrap (ys.length : Int) = (ys.length : Int) := IntWalk.i64_in _ ⟨by omega, by omega⟩
  have n0 : (0 : Int) ≤ (ys.length : Int) := by omega
  have n1 : (ys.length : Int) ≤ (cap : Int) := by omega
  have i0 : (0 : Int) ≤ (i : Int) := by omega
  have i1 : (i : Int) < (L.length : Int) := by omega
  unfold maxLen at hcm
  clear hv hb hcs htk hsh hok hp hx
  go_enter Try.func41, Try.ntmps41
  go_wp2_with (go_at_call 46; refine (has_in h i hi).mono ?_; rintro e w' ⟨rfl, rfl⟩)
  go_region_held3 (fun w' => w'.cell? ⟨b, 0, none⟩ = some (.slice (some ⟨bl, 0, none⟩) L.length L.length)) (first | assumption | (exact (World.cell?_of_block (Below.heap_setCell _ _ _ _ hbb)).trans (by assumption)) | go_keep) (fail)
  go_wp2_with fail
  go_ret2
  exact ⟨rfl, ⟨.slice (some ⟨g, 0, none⟩) ys.length cap, ys, x.bs⟩, HS.out, rfl, hin.drew⟩
end
end Go.Proofs.Ytpmnababdjdniaa.nref
