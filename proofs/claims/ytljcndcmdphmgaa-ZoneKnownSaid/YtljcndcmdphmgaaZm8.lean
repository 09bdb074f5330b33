/-
  Texts of this claim, joined. No condition.
-/
import Derived.Test.YtljcndcmdphmgaaZm7
import Derived.Test.YtljcndcmdphmgaaZm1
import Derived.Maps.OwnSet
import Derived.Maps.OwnOps
/-
  What the functions of wainscotref07 do: each once.
-/
namespace Go.Proofs.Ytljcndcmdphmgaa
open Go.RowKit

section
variable {W : World} {m : List (Nat × Obj)} {w : World} {v : Value} {l : List Int}
set_option maxHeartbeats 400000 in
theorem copy_spec (h : Own W m w) (hv : IntsSrc w v l) (hlen : l.length ≤ 60000) :
    Calls Try.prog 108 #[v] w fun e w' => ∃ v' bs', e = .returned v' ∧ IntsOwn true v' l bs' ∧ Own W (bs' ++ m) w' := by
  have h0 : Own W ([] ++ m) w := h
  have hs0 : IntsOwn true (.slice none 0 0) [] [] := SlO.nil _ _ _
  go_enter Try.func108, Try.ntmps108
  go_wp2_with (at_builtin; refine wpList_app_ints (by rfl) _ _ (by rfl) (by rfl) (by rfl) hs0 h0 hv (by simpa using hlen) ?_; intro v' w' bs' h1 h2 h3; have H1 := Lib.hid h1; clear h1 h3)
  go_ret
  exact ⟨_, bs', rfl, H1.out, h2⟩
end
namespace nref
section
variable {T : TypeId} {W : World} {m : List (Nat × Obj)} {w : World} {b bl : Nat} {lim : Int} {L : List NL}

set_option maxHeartbeats 400000 in
theorem has_in (h : Own W (nrBlocks T b bl lim L ++ m) w) (i : Nat) (hi : i < L.length) :
    Calls Try.prog 106 #[.pointer (some ⟨b, 0, none⟩), .int .i64 i] w fun e w' => e = .returned (.bool true) ∧ w = w' := by
  have c0 := nrHead h
  go_enter Try.func106, Try.ntmps106
  go_wp2
  go_ret
  exact ⟨rfl, rfl⟩
set_option maxHeartbeats 400000 in
theorem has_out (h : Own W (nrBlocks T b bl lim L ++ m) w) (cpu : Int) (hc : cpu < 0 ∨ L.length ≤ cpu) :
    Calls Try.prog 106 #[.pointer (some ⟨b, 0, none⟩), .int .i64 cpu] w fun e w' => e = .returned (.bool false) ∧ w = w' := by
  have c0 := nrHead h
  go_enter Try.func106, Try.ntmps106
  go_wp2
  all_goals go_ret
  all_goals (refine ⟨?_, rfl⟩)
  all_goals (simp; try omega)

set_option maxHeartbeats 1000000 in
theorem Has_spec (h : Own W (nrBlocks T b bl lim L ++ m) w) (ok : NrOk lim L) (n : Int) :
    Calls Try.prog 107 #[.pointer (some ⟨b, 0, none⟩), .int .i64 n] w fun e w' => e = .returned (.bool (nrHas L n)) ∧ w = w' := by
  have c0 := nrHead h
  have hl8 := ok.1
  go_enter Try.func107, Try.ntmps107
  go_wp2_with fail
  go_loop [5] (fun k => ∃ i : Nat, i ≤ L.length ∧ k = .int .i64 i ∧ ∀ j, j < i → ∀ y, L[j]? = some y → n ∉ y.xs) (fun k => L.length - (intOf k).toNat)
  case atStart => exact ⟨0, Nat.zero_le _, rfl, fun j hj => absurd hj (by omega)⟩
  case round =>
    obtain ⟨i, hi, rfl, hno⟩ := hrel
    have HN := Lib.hid hno
    clear hno
    by_cases hlt : i < L.length
    · obtain ⟨x, hx⟩ : ∃ x, L[i]? = some x := ⟨_, List.getElem?_eq_getElem hlt⟩
      have cx := nrCell h hx
      have ho := nrOut h hx
      have hok : IntsOwn true x.v x.xs x.bs := (ok.at_ hx).1
      have hl64 := (ok.at_ hx).2
      have HX := Lib.hid hx
      clear hx
      obtain ⟨A, cap, hv, hnc, hcm⟩ := SlO.slice hok
      rw [hv] at cx hok
      clear hv
      unfold maxLen at hcm
      go_wp2_with fail
      go_loop [6] (fun k => ∃ j : Nat, j ≤ x.xs.length ∧ k = .int .i64 j ∧ ∀ q, q < j → x.xs[q]? ≠ some n) (fun k => x.xs.length - (intOf k).toNat)
      case atStart => exact ⟨0, Nat.zero_le _, rfl, fun j hj => absurd hj (by omega)⟩
      case round =>
        obtain ⟨j, hj, rfl, hnq⟩ := hrel
        have HQ := Lib.hid hnq
        clear hnq
        by_cases hjl : j < x.xs.length
        · obtain ⟨g, cap', cur, hv, _, _, _, _, _⟩ := SlO.form hok (by omega)
          obtain ⟨y, hy⟩ : ∃ y, x.xs[j]? = some y := ⟨_, List.getElem?_eq_getElem hjl⟩
          have cy := SlO.cell hok ho hv (ints_get hy)
          cases hv
          have HY := Lib.hid hy
          clear hy
          by_cases hny : y = n
          · subst hny
            go_wp2_with fail
            go_ret
            refine ⟨?_, rfl⟩
            have : nrHas L y = true := by
              unfold nrHas
              rw [List.any_eq_true]
              exact ⟨x, List.mem_of_getElem? HX.out, by simpa using List.mem_of_getElem? HY.out⟩
            rw [this]; rfl
          · have hb : (y == n) = false := by simpa using hny
            go_wp2_with fail
            go_round
            case rel =>
              refine ⟨j + 1, by omega, by go_num, fun q hq => ?_⟩
              by_cases hqj : q < j
              · exact HQ.out q hqj
              · obtain rfl : q = j := by omega
                rw [HY.out]
                intro he
                exact hny (by simpa using he)
            case measure => simp [intOf]; omega
        · obtain rfl : j = x.xs.length := by omega
          go_wp2_with fail
          go_round
          case rel =>
            refine ⟨i + 1, by omega, by go_num, fun q hq y hy => ?_⟩
            by_cases hqi : q < i
            · exact HN.out q hqi y hy
            · obtain rfl : q = i := by omega
              rw [HX.out] at hy
              cases hy
              intro hmem
              obtain ⟨r, hr, he⟩ := List.getElem_of_mem hmem
              exact HQ.out r hr (by rw [List.getElem?_eq_getElem hr, he])
          case measure => simp [intOf]; omega
    · obtain rfl : i = L.length := by omega
      go_wp2_with fail
      go_ret
      refine ⟨?_, rfl⟩
      have : nrHas L n = false := by
        unfold nrHas
        rw [List.any_eq_false]
        intro x hx
        obtain ⟨j, hj, rfl⟩ := List.getElem_of_mem hx
        simpa using HN.out j hj _ (List.getElem?_eq_getElem hj)
      rw [this]; rfl
end
end nref
end Go.Proofs.Ytljcndcmdphmgaa

/-
  What the functions of wainscotref07 do, on: Put, Take, Drain, List, New.
-/
namespace Go.Proofs.Ytljcndcmdphmgaa.nref
open Go.RowKit
section
variable {T : TypeId} {W : World} {m : List (Nat × Obj)} {w : World} {b bl : Nat} {lim : Int} {L : List NL}

/-- a list's slice is stored: what the old one owned is kept beside -/
theorem replaceKeep {i : Nat} {x : NL} (hx : L[i]? = some x) {y : NL} (h : Own W (y.bs ++ (nrBlocks T b bl lim L ++ m)) w) :
    Own W (nrBlocks T b bl lim (L.set i y) ++ (x.bs ++ m)) (w.setCell ⟨bl, i, none⟩ y.v) := by
  refine nrIn hx (m := x.bs ++ m) (h.perm (List.Perm.append_left _ ?_))
  exact (nr_perm L hx).trans (perm_swap _ _ _)
theorem replace {i : Nat} {x : NL} (hx : L[i]? = some x) {y : NL} (h : Own W (y.bs ++ (nrBlocks T b bl lim L ++ m)) w) :
    Own W (nrBlocks T b bl lim (L.set i y) ++ m) (w.setCell ⟨bl, i, none⟩ y.v) := (replaceKeep hx h).swap.dropL
theorem nrNe (h : Own W (nrBlocks T b bl lim L ++ m) w) : b ≠ bl := by
  have := h.nd
  simp only [nrBlocks, List.cons_append, List.map_cons, List.nodup_cons] at this
  intro he
  exact this.1 (he ▸ List.mem_cons_self)
theorem src_take {ex : Bool} {v : Value} {l : List Int} {bs : List (Nat × Obj)} {g cap k : Nat} (hs : IntsOwn ex v l bs) (hO : Own W (bs ++ m) w) (hv : v = .slice (some ⟨g, 0, none⟩) l.length cap) (hk : k ≤ l.length) :
    IntsSrc w (.slice (some ⟨g, 0, none⟩) k cap) (l.take k) := by
  have hl : (l.take k).length = k := by simp; omega
  have := SlO.src (SlO.shorter hs hv hk) hO
  rw [Nat.mul_one, ints_take] at this
  unfold IntsSrc
  rw [hl]
  exact this

set_option maxHeartbeats 1000000 in
theorem put_range (h : Own W (nrBlocks T b bl lim L ++ m) w) (cpu p : Int) (hb : cpu < 0 ∨ L.length ≤ cpu ∨ p < 0 ∨ 1024 ≤ p) :
    Calls Try.prog 96 #[.pointer (some ⟨b, 0, none⟩), .int .i64 cpu, .int .i64 p] w fun e w' => e = .returned (.tuple #[.slice none 0 0, .int .i64 9]) ∧ w = w' := by
  by_cases hc : cpu < 0 ∨ L.length ≤ cpu
  · go_enter Try.func96, Try.ntmps96
    go_wp2_with (first | (go_at_call 106; refine (has_out h cpu hc).mono ?_; rintro e w' ⟨rfl, rfl⟩) | fail)
    go_ret2
    exact ⟨rfl, rfl⟩
  · obtain ⟨i, rfl⟩ := Int.eq_ofNat_of_zero_le (show 0 ≤ cpu by omega)
    have hp : p < 0 ∨ 1024 ≤ p := by omega
    have hi : i < L.length := by omega
    clear hc hb
    go_enter Try.func96, Try.ntmps96
    go_wp2_with (first | (go_at_call 106; refine (has_in h i hi).mono ?_; rintro e w' ⟨rfl, rfl⟩) | fail)
    all_goals first
      | (go_ret2; exact ⟨rfl, rfl⟩)
      | (exfalso; omega)
set_option maxHeartbeats 1000000 in
theorem put_block (h : Own W (nrBlocks T b bl lim L ++ m) w) (ok : NrOk lim L) (i : Nat) (hi : i < L.length) (p : Int) (h0 : 0 ≤ p) (h1 : p < 1024) (hhas : nrHas L p = true) :
    Calls Try.prog 96 #[.pointer (some ⟨b, 0, none⟩), .int .i64 i, .int .i64 p] w fun e w' => e = .returned (.tuple #[.slice none 0 0, .int .i64 60]) ∧ w = w' := by
  go_enter Try.func96, Try.ntmps96
  go_wp2_with (first | (go_at_call 106; refine (has_in h i hi).mono ?_; rintro e w' ⟨rfl, rfl⟩) | (go_at_call 107; refine (Has_spec h ok p).mono ?_; rintro e w1 ⟨rfl, rfl⟩; rw [hhas]))
  go_ret2
  exact ⟨rfl, rfl⟩

set_option maxRecDepth 100000 in
set_option maxHeartbeats 1000000 in
theorem put_yes (h : Own W (nrBlocks T b bl lim L ++ m) w) (ok : NrOk lim L) (i : Nat) {x : NL} (hx : L[i]? = some x) (p : Int) (h0 : 0 ≤ p) (h1 : p < 1024) (hhas : nrHas L p = false) :
    Calls Try.prog 96 #[.pointer (some ⟨b, 0, none⟩), .int .i64 i, .int .i64 p] w (NrPut W m T b bl lim L i x.xs p) := by
  have hi : i < L.length := (List.getElem?_eq_some_iff.1 hx).1
  have hl8 := ok.1
  have hl64 := (ok.at_ hx).2
  have hlim := ok.2.2.1
  have hlim0 := ok.2.1
  have c0 := nrHead h
  have cx := nrCell h hx
  have hsrc : IntsSrc w x.v x.xs := SlO.src (ok.at_ hx).1 (nrOut h hx)
  have hok : IntsOwn true x.v x.xs x.bs := (ok.at_ hx).1
  obtain ⟨A, cap, hv, hnc, hcm⟩ := SlO.slice hok
  rw [hv] at cx hsrc
  have hX := Lib.hid hx
  clear hx hok hv
  have hlen1 : x.xs.length + [p].length ≤ 60000 := by simp; omega
  go_enter Try.func96, Try.ntmps96
  go_upto_region 6 with (first | (go_at_call 106; refine (has_in h i hi).mono ?_; rintro e w' ⟨rfl, rfl⟩) | (go_at_call 107; refine (Has_spec h ok p).mono ?_; rintro e w1 ⟨rfl, rfl⟩; rw [hhas]) |
    (go_at_call 108; refine (copy_spec h hsrc (by omega)).mono ?_; rintro e w1 ⟨v1, bs1, rfl, h2, h3⟩) |
    (at_builtin; refine wpList_app_ints (by rfl) _ _ (by rfl) (by rfl) (by rfl) h2 (h3.alloc _) (src_one w1 p) hlen1 ?_; intro v' w2 bs' h4 h5 h6; obtain ⟨g, c2, cur, rfl, _, hn2, hc2, _, _⟩ := SlO.form h4 (by simp); clear h6))
  have c2i := nrCell h5.dropL hX.out
  have f2i := nrFree h5.dropL i
  have c20 := nrHead h5.dropL
  have hlt2 := nrLt h5.dropL
  have hy : NL.ok ⟨.slice (some ⟨g, 0, none⟩) (x.xs.length + 1) c2, x.xs ++ [p], bs'⟩ := by
    have e1 : x.xs.length + 1 = (x.xs ++ [p]).length := by simp
    show IntsOwn true (.slice (some ⟨g, 0, none⟩) (x.xs.length + 1) c2) _ bs'
    rw [e1]; exact h4
  have h6 := replaceKeep hX.out (y := ⟨.slice (some ⟨g, 0, none⟩) (x.xs.length + 1) c2, x.xs ++ [p], bs'⟩) h5
  have hL2 : (L.set i ⟨.slice (some ⟨g, 0, none⟩) (x.xs.length + 1) c2, x.xs ++ [p], bs'⟩)[i]? = some ⟨.slice (some ⟨g, 0, none⟩) (x.xs.length + 1) c2, x.xs ++ [p], bs'⟩ := by simp [hi]
  generalize hw3 : w2.setCell ⟨bl, i, none⟩ (.slice (some ⟨g, 0, none⟩) (x.xs.length + 1) c2) = w3 at h6
  have hl3 := nrLim h6
  have c30 := nrHead h6
  have ci3 := nrCell h6 hL2
  have fi3 := nrFree h6 i
  rw [List.length_set] at c30
  have Hw3 := Lib.hid hw3
  have HY := Lib.hid hy
  have HL2 := Lib.hid hL2
  have H4 := Lib.hid h4
  simp only [List.length_append, List.length_cons, List.length_nil, Nat.zero_add] at hn2
  unfold maxLen at hc2
  clear hw3 hy hL2 h4 hsrc c0 cx
  go_upto_region 7 with fail
  rw [Hw3.out]
  clear c2i f2i c20
  by_cases hgt : lim < (x.xs.length : Int) + 1
  · generalize hK : nrK lim (x.xs.length + 1) = K
    have hKle : K ≤ x.xs.length + 1 := by have := nrK_le lim (x.xs.length + 1); omega
    have hKi : ((x.xs.length : Int) + 1 + 1) / 2 = (K : Nat) := by rw [← hK, nrK, if_pos (by omega)]; omega
    have HKI := Lib.hid hKi
    have HK := Lib.hid hK
    clear hKi hK
    go_upto_region 10 with fail
    rw [HKI.out]
    have hbb : b ≠ bl := nrNe h6
    have k0 : (0 : Int) ≤ (K : Int) := by omega
    have k1 : (K : Int) ≤ (x.xs.length : Int) + 1 := by omega
    have k2 : (x.xs.length : Int) + 1 ≤ (c2 : Int) := by omega
    have i0 : (0 : Int) ≤ (i : Int) := by omega
    have i1 : (i : Int) < (L.length : Int) := by omega
    have hO6 : Own W (bs' ++ (nrRest T b bl lim (L.set i ⟨.slice (some ⟨g, 0, none⟩) (x.xs.length + 1) c2, x.xs ++ [p], bs'⟩) i ++ (x.bs ++ m))) w3 := nrOut h6 HL2.out
    have hlk : ((x.xs ++ [p]).drop K).length ≤ 60000 := by simp; omega
    have hlt4 : ((x.xs ++ [p]).take K).length ≤ 60000 := by simp; omega
    by_cases hck : c2 = K
    · have hn0 : x.xs.length + 1 = K := by have := HK.out; unfold nrK at this; split at this <;> omega
      have hd : (x.xs ++ [p]).drop K = [] := List.drop_of_length_le (by simp; omega)
      rw [hd] at hlk
      have HD := Lib.hid hd
      clear hd hn0
      have hck' := hck.symm
      clear hck
      subst hck'
      go_region_held3 (fun w' => w'.cell? ⟨b, 0, none⟩ = some (.slice (some ⟨bl, 0, none⟩) L.length L.length)) (first | assumption | (exact (World.cell?_of_block (Below.heap_setCell _ _ _ _ hbb)).trans (by assumption)) | go_keep)
        (first | (go_at_call 108; refine (copy_spec h6.drew (src_none _ g) hlk).mono ?_; rintro e w4 ⟨v3, bs3, rfl, h7, h8⟩; have c40 := nrHead h8.dropL; rw [List.length_set] at c40; have ci4 := nrCell h8.dropL HL2.out; have fi4 := nrFree h8.dropL i; obtain ⟨A3, c3, rfl, hl3a, hm3a⟩ := SlO.slice h7))
      have h9 := replaceKeep HL2.out (y := ⟨.slice A3 0 c3, (x.xs ++ [p]).drop K, bs3⟩) h8
      rw [List.set_set] at h9
      generalize hw5 : w4.setCell ⟨bl, i, none⟩ (.slice A3 0 c3) = w5 at h9 ⊢
      have hst := src_take H4.out h9.swap rfl (k := K) (by simp; omega)
      have H7 := Lib.hid h7
      have Hw5 := Lib.hid hw5
      clear hw5 h7 h8 c40 ci4 fi4
      go_wp2_with (go_at_call 108; refine (copy_spec h9 hst hlt4).mono ?_; rintro e w6 ⟨v4, bs4, rfl, h10, h11⟩)
      go_ret2
      refine ⟨v4, bs4, ⟨.slice A3 0 c3, (x.xs ++ [p]).drop K, bs3⟩, rfl, by rw [HK.out]; exact h10.weak, ?_, by rw [HK.out], h11.sub ((List.Sublist.refl _).append ((List.Sublist.refl _).append ((List.sublist_append_right _ _).trans (List.sublist_append_right _ _))))⟩
      rw [HD.out]; exact H7.out
    · have hsd := (src_drop H4.out hO6 rfl (k := K) (by simp; omega))
      rw [show (x.xs ++ [p]).length - K = x.xs.length + 1 - K from by simp] at hsd
      go_region_held3 (fun w' => w'.cell? ⟨b, 0, none⟩ = some (.slice (some ⟨bl, 0, none⟩) L.length L.length)) (first | assumption | (exact (World.cell?_of_block (Below.heap_setCell _ _ _ _ hbb)).trans (by assumption)) | go_keep)
        (first | (go_at_call 108; refine (copy_spec h6.drew hsd hlk).mono ?_; rintro e w4 ⟨v3, bs3, rfl, h7, h8⟩; have c40 := nrHead h8.dropL; rw [List.length_set] at c40; have ci4 := nrCell h8.dropL HL2.out; have fi4 := nrFree h8.dropL i; obtain ⟨A3, c3, rfl, hl3a, hm3a⟩ := SlO.slice h7))
      have h9 := replaceKeep HL2.out (y := ⟨.slice A3 (x.xs.length + 1 - K) c3, (x.xs ++ [p]).drop K, bs3⟩) h8
      rw [List.set_set] at h9
      generalize hw5 : w4.setCell ⟨bl, i, none⟩ (.slice A3 (x.xs.length + 1 - K) c3) = w5 at h9 ⊢
      have hst := src_take H4.out h9.swap rfl (k := K) (by simp; omega)
      have H7 := Lib.hid h7
      have Hw5 := Lib.hid hw5
      clear hw5 h7 h8 c40 ci4 fi4
      go_wp2_with (go_at_call 108; refine (copy_spec h9 hst hlt4).mono ?_; rintro e w6 ⟨v4, bs4, rfl, h10, h11⟩)
      go_ret2
      refine ⟨v4, bs4, ⟨.slice A3 (x.xs.length + 1 - K) c3, (x.xs ++ [p]).drop K, bs3⟩, rfl, by rw [HK.out]; exact h10.weak, ?_, by rw [HK.out], h11.sub ((List.Sublist.refl _).append ((List.Sublist.refl _).append ((List.sublist_append_right _ _).trans (List.sublist_append_right _ _))))⟩
      have e1 : x.xs.length + 1 - K = ((x.xs ++ [p]).drop K).length := by simp
      show IntsOwn true (.slice A3 (x.xs.length + 1 - K) c3) _ bs3
      rw [e1]; exact H7.out
  · go_wp2_with fail
    go_ret2
    refine ⟨.slice none 0 0, [], _, rfl, ?_, HY.out, ?_, h6.swap.dropL⟩
    · rw [show nrK lim (x.xs.length + 1) = 0 from if_neg (by omega)]
      exact SlO.nil _ _ _
    · rw [show nrK lim (x.xs.length + 1) = 0 from if_neg (by omega)]
      rfl

set_option maxRecDepth 10000 in
set_option maxHeartbeats 1000000 in
theorem take_yes (h : Own W (nrBlocks T b bl lim L ++ m) w) (ok : NrOk lim L) (i : Nat) {x : NL} (hx : L[i]? = some x) {p : Int} {ys : List Int} (hp : x.xs = ys ++ [p]) :
    Calls Try.prog 91 #[.pointer (some ⟨b, 0, none⟩), .int .i64 i] w fun e w' => e = .returned (.tuple #[.int .i64 p, .bool true]) ∧ ∃ y, y.ok ∧ y.xs = ys ∧ Own W (nrBlocks T b bl lim (L.set i y) ++ m) w' := by
  have hi : i < L.length := (List.getElem?_eq_some_iff.1 hx).1
  have hlen : x.xs.length = ys.length + 1 := by rw [hp]; simp
  have hl64 := (ok.at_ hx).2
  have hl8 := ok.1
  have ho := nrOut h hx
  have hok : IntsOwn true x.v x.xs x.bs := (ok.at_ hx).1
  obtain ⟨g, cap, cur, hv, hb, hnc, hcm, hcs, htk⟩ := SlO.form hok (by omega)
  have cx := nrCell h hx
  have fx := nrFree h i
  have c0 := nrHead h
  have hbb := nrNe h
  have hsh := SlO.shorter hok hv (k := ys.length) (by omega)
  rw [Nat.mul_one, ints_take, hp, List.take_left] at hsh
  have hin := nrIn (y := ⟨.slice (some ⟨g, 0, none⟩) ys.length cap, ys, x.bs⟩) hx ho
  have cl : (w.setCell ⟨bl, i, none⟩ (.slice (some ⟨g, 0, none⟩) ys.length cap)).cell? ⟨g, ys.length, none⟩ = some (.int .i64 p) := by
    have hgl : g ≠ bl := by
      rw [hb] at ho
      exact fun he => Own.ne ho (b' := bl) (o' := .cells (L.map (·.v)).toArray 38) (by
        have := (nrR_mem (T := T) (b := b) (bl := bl) (lim := lim) (L := L) [] m i).2
        simpa using this) he.symm
    rw [World.cell?_of_block (w := w) (Below.heap_setCell w ⟨bl, i, none⟩ _ g hgl)]
    exact SlO.cell hok ho hv (ints_get (by rw [hp]; simp))
  rw [hv, hlen] at cx
  have HS := Lib.hid hsh
  have HP := Lib.hid hp
  have hwr : IntKind.i64.wrap ((ys.length : Int) + 1 - 1) = (ys.length : Int) := by rw [Int.add_sub_cancel]; exact IntWalk.i64_in _ ⟨by omega, by omega⟩
  have hwr2 : IntKind.i64.wrap (ys.length : Int) = (ys.length : Int) := IntWalk.i64_in _ ⟨by omega, by omega⟩
  have n0 : (0 : Int) ≤ (ys.length : Int) := by omega
  have n1 : (ys.length : Int) ≤ (cap : Int) := by omega
  have i0 : (0 : Int) ≤ (i : Int) := by omega
  have i1 : (i : Int) < (L.length : Int) := by omega
  unfold maxLen at hcm
  clear hv hb hcs htk hsh hok hp hx
  go_enter Try.func91, Try.ntmps91
  go_wp2_with (go_at_call 106; refine (has_in h i hi).mono ?_; rintro e w' ⟨rfl, rfl⟩)
  go_region_held3 (fun w' => w'.cell? ⟨b, 0, none⟩ = some (.slice (some ⟨bl, 0, none⟩) L.length L.length)) (first | assumption | (exact (World.cell?_of_block (Below.heap_setCell _ _ _ _ hbb)).trans (by assumption)) | go_keep) (fail)
  go_wp2_with fail
  go_ret2
  exact ⟨rfl, ⟨.slice (some ⟨g, 0, none⟩) ys.length cap, ys, x.bs⟩, HS.out, rfl, hin.drew⟩
end
end Go.Proofs.Ytljcndcmdphmgaa.nref

/-
  What the functions of wainscotref07 do, on; and both, as one model.
-/
namespace Go.Proofs.Ytljcndcmdphmgaa.nref
open Go.RowKit
section
variable {T : TypeId} {W : World} {m : List (Nat × Obj)} {w : World} {b bl : Nat} {lim : Int} {L : List NL}
set_option maxHeartbeats 400000 in
theorem take_empty (h : Own W (nrBlocks T b bl lim L ++ m) w) (ok : NrOk lim L) (i : Nat) {x : NL} (hx : L[i]? = some x) (hp : x.xs = []) :
    Calls Try.prog 91 #[.pointer (some ⟨b, 0, none⟩), .int .i64 i] w fun e w' => e = .returned (.tuple #[.int .i64 0, .bool false]) ∧ w = w' := by
  have hi : i < L.length := (List.getElem?_eq_some_iff.1 hx).1
  have hok : IntsOwn true x.v x.xs x.bs := (ok.at_ hx).1
  obtain ⟨A, cap, hv, hnc, hcm⟩ := SlO.slice hok
  have cx := nrCell h hx
  have c0 := nrHead h
  rw [hv, hp] at cx
  simp only [List.length_nil] at cx
  clear hv hok hx hp
  go_enter Try.func91, Try.ntmps91
  go_wp2_with (go_at_call 106; refine (has_in h i hi).mono ?_; rintro e w' ⟨rfl, rfl⟩)
  go_ret2
  exact ⟨rfl, rfl⟩
set_option maxHeartbeats 400000 in
theorem take_out (h : Own W (nrBlocks T b bl lim L ++ m) w) (cpu : Int) (hc : cpu < 0 ∨ L.length ≤ cpu) :
    Calls Try.prog 91 #[.pointer (some ⟨b, 0, none⟩), .int .i64 cpu] w fun e w' => e = .returned (.tuple #[.int .i64 0, .bool false]) ∧ w = w' := by
  go_enter Try.func91, Try.ntmps91
  go_wp2_with (go_at_call 106; refine (has_out h cpu hc).mono ?_; rintro e w' ⟨rfl, rfl⟩)
  go_ret2
  exact ⟨rfl, rfl⟩
set_option maxHeartbeats 400000 in
theorem drain_in (h : Own W (nrBlocks T b bl lim L ++ m) w) (ok : NrOk lim L) (i : Nat) {x : NL} (hx : L[i]? = some x) :
    Calls Try.prog 94 #[.pointer (some ⟨b, 0, none⟩), .int .i64 i] w fun e w' => e = .returned x.v ∧ Own W (x.bs ++ (nrBlocks T b bl lim (L.set i nlNil) ++ m)) w' := by
  have hi : i < L.length := (List.getElem?_eq_some_iff.1 hx).1
  have ho := nrOut h hx
  have cx := nrCell h hx
  have c0 := nrHead h
  have fx := nrFree h i
  have hlt := (nrLt h).2
  have hin : Own W (nrBlocks T b bl lim (L.set i nlNil) ++ (x.bs ++ m)) (w.setCell ⟨bl, i, none⟩ (.slice none 0 0)) := by
    refine nrIn (y := nlNil) hx ?_
    show Own W ([] ++ _) w
    exact ho.perm (perm_swap _ _ _)
  have hok : IntsOwn true x.v x.xs x.bs := (ok.at_ hx).1
  obtain ⟨A, cap, hv, hnc, hcm⟩ := SlO.slice hok
  rw [hv] at cx ⊢
  clear hv hok hx
  go_enter Try.func94, Try.ntmps94
  go_wp2_with (go_at_call 106; refine (has_in h i hi).mono ?_; rintro e w' ⟨rfl, rfl⟩)
  go_ret
  exact ⟨rfl, hin.swap⟩
set_option maxHeartbeats 400000 in
theorem drain_out (h : Own W (nrBlocks T b bl lim L ++ m) w) (cpu : Int) (hc : cpu < 0 ∨ L.length ≤ cpu) :
    Calls Try.prog 94 #[.pointer (some ⟨b, 0, none⟩), .int .i64 cpu] w fun e w' => e = .returned (.slice none 0 0) ∧ w = w' := by
  go_enter Try.func94, Try.ntmps94
  go_wp2_with (go_at_call 106; refine (has_out h cpu hc).mono ?_; rintro e w' ⟨rfl, rfl⟩)
  go_ret
  exact ⟨rfl, rfl⟩
end
set_option maxRecDepth 10000 in
set_option maxHeartbeats 400000 in
theorem new_ok {W : World} {m : List (Nat × Obj)} {w : World} (h : Own W m w) (k lim : Int) (h1 : 1 ≤ k) (h8 : k ≤ 8) (hl0 : 0 ≤ lim) (hl : lim ≤ 64) :
    Calls Try.prog 68 #[.int .i64 k, .int .i64 lim] w fun e w' => ∃ b bl, e = .returned (.tuple #[.pointer (some ⟨b, 0, none⟩), .int .i64 0]) ∧ Own W (nrBlocks 134 b bl lim (List.replicate k.toNat nlNil) ++ m) w' := by
  obtain ⟨n, rfl⟩ := Int.eq_ofNat_of_zero_le (show 0 ≤ k from by omega)
  rw [Int.toNat_natCast]
  obtain ⟨i, hi, hz, hs, hb⟩ := info_get sl_info
  have hmk := fun W => run_make_rowN (P := Try.prog) 130 38 i _ Try.underlying130 hi hz .i64 .i64 n n (Nat.le_refl _) (by rw [hb]; omega) (by omega) W
  rw [hs, madeCells_const _ (.slice none 0 0) _ (by simp [Value.cells]) (by intro j hj; obtain rfl : j = 0 := (by simp [Value.cells] at hj; omega); rfl), Nat.mul_one, ← nil_cells] at hmk
  obtain ⟨cs, hcs⟩ : ∃ cs, cs = ((List.replicate n nlNil).map (·.v)).toArray := ⟨_, rfl⟩
  rw [← hcs] at hmk
  have HC := Lib.hid hcs
  clear hcs
  clear hi hz hs hb
  go_enter Try.func68, Try.ntmps68
  go_wp2_with fail
  go_ret2
  refine ⟨w.heap.size + 1, w.heap.size, rfl, ?_⟩
  have h2 := (h.new (.cells cs 38)).new (.cells #[.slice (some ⟨w.heap.size, 0, none⟩) n n, .int .i64 lim] 134)
  have hfm : (List.replicate n nlNil).flatMap (·.bs) = [] := by rw [List.flatMap_eq_nil_iff]; intro x hx; rw [List.eq_of_mem_replicate hx]; rfl
  unfold nrBlocks
  rw [hfm, List.length_replicate, ← HC.out]
  simpa using h2
set_option maxHeartbeats 400000 in
theorem new_bad (k lim : Int) (hn : k < 1 ∨ 8 < k ∨ lim < 0 ∨ 64 < lim) (w : World) :
    Calls Try.prog 68 #[.int .i64 k, .int .i64 lim] w fun e w' => e = .returned (.tuple #[.pointer none, .int .i64 2]) ∧ w = w' := by
  go_enter Try.func68, Try.ntmps68
  go_wp2
  all_goals first
    | (go_ret2; exact ⟨rfl, rfl⟩)
    | (exfalso; omega)
end Go.Proofs.Ytljcndcmdphmgaa.nref

/-
  near.Near and wainscotref07.Near, said of lists of pages alone.
-/
namespace Go.Proofs.Ytljcndcmdphmgaa
open Go.RowKit

def xAt (X : List (List Int)) (cpu : Int) : Option (List Int) := if 0 ≤ cpu then X[cpu.toNat]? else none
def xHas (X : List (List Int)) (p : Int) : Bool := X.any fun xs => decide (p ∈ xs)
def nPut (X : List (List Int)) (lim cpu p : Int) : (List Int × Int) × List (List Int) :=
  match xAt X cpu with
  | none => (([], 9), X)
  | some xs =>
    if p < 0 ∨ 1024 ≤ p then (([], 9), X) else if xHas X p then (([], 60), X) else
    (((xs ++ [p]).take (nrK lim (xs.length + 1)), 0), X.set cpu.toNat ((xs ++ [p]).drop (nrK lim (xs.length + 1))))
def nTake (X : List (List Int)) (cpu : Int) : (Int × Bool) × List (List Int) :=
  match xAt X cpu with
  | none => ((0, false), X)
  | some xs => match xs.getLast? with
    | none => ((0, false), X)
    | some p => ((p, true), X.set cpu.toNat xs.dropLast)
def nDrain (X : List (List Int)) (cpu : Int) : List Int × List (List Int) :=
  match xAt X cpu with
  | none => ([], X)
  | some xs => (xs, X.set cpu.toNat [])
def nList (X : List (List Int)) (cpu : Int) : List Int := (xAt X cpu).getD []

/-- the lists are there, for what they hold -/
def XsAre (lim : Int) (L : List NL) (X : List (List Int)) : Prop := NrOk lim L ∧ L.map (·.xs) = X
section
variable {T : TypeId} {W : World} {m : List (Nat × Obj)} {w : World} {b bl : Nat} {lim : Int} {L : List NL} {X : List (List Int)}

theorem XsAre.at_none (h : XsAre lim L X) {cpu : Int} (hx : xAt X cpu = none) : cpu < 0 ∨ L.length ≤ cpu := by
  unfold xAt at hx
  split at hx
  · rw [List.getElem?_eq_none_iff, ← h.2, List.length_map] at hx; omega
  · omega
theorem XsAre.at_some (h : XsAre lim L X) {cpu : Int} {xs : List Int} (hx : xAt X cpu = some xs) : ∃ (i : Nat) (x : NL), cpu = i ∧ L[i]? = some x ∧ x.xs = xs := by
  unfold xAt at hx
  split at hx
  · obtain ⟨i, rfl⟩ := Int.eq_ofNat_of_zero_le ‹_›
    rw [← h.2, List.getElem?_map] at hx
    obtain ⟨x, hx1, rfl⟩ := Option.map_eq_some_iff.1 hx
    rw [Int.toNat_natCast] at hx1
    exact ⟨i, x, rfl, hx1, rfl⟩
  · cases hx
theorem XsAre.has (h : XsAre lim L X) (p : Int) : nrHas L p = xHas X p := by
  unfold nrHas xHas
  rw [← h.2, List.any_map]
  rfl
theorem XsAre.set (h : XsAre lim L X) {i : Nat} {y : NL} (hy : y.ok) (hl : y.xs.length ≤ 64) : XsAre lim (L.set i y) (X.set i y.xs) := by
  refine ⟨⟨by simpa using h.1.1, h.1.2.1, h.1.2.2.1, fun z hz => ?_⟩, by rw [List.map_set, h.2]⟩
  rcases List.mem_or_eq_of_mem_set hz with hz | rfl
  · exact h.1.2.2.2 z hz
  · exact ⟨hy, hl⟩
theorem drop_le {lim : Int} (h : lim ≤ 64) (h0 : 0 ≤ lim) {xs : List Int} (hx : xs.length ≤ 64) (p : Int) : ((xs ++ [p]).drop (nrK lim (xs.length + 1))).length ≤ 64 := by
  unfold nrK
  split
  · simp; omega
  · simp; omega

/-- what a Put does -/
def NPutPost (W : World) (m : List (Nat × Obj)) (T : TypeId) (b bl : Nat) (lim : Int) (X : List (List Int)) (cpu p : Int) (e : Ending) (w' : World) : Prop :=
  ∃ v bs L', e = .returned (.tuple #[v, .int .i64 (nPut X lim cpu p).1.2]) ∧ IntsOwn false v (nPut X lim cpu p).1.1 bs ∧ XsAre lim L' (nPut X lim cpu p).2 ∧ Own W (bs ++ (nrBlocks T b bl lim L' ++ m)) w'
theorem nput_post (_h : Own W (nrBlocks T b bl lim L ++ m) w) (ok : XsAre lim L X) {e : Ending} {x : NL} {i : Nat} (hx : L[i]? = some x) {p : Int} (h0 : 0 ≤ p) (h1 : p < 1024) (hh : xHas X p = false) {w' : World}
    (hp : NrPut W m T b bl lim L i x.xs p e w') : NPutPost W m T b bl lim X i p e w' := by
  obtain ⟨vr, bsr, y, he, h2, h3, h4, h5⟩ := hp
  have hxa : xAt X (i : Int) = some x.xs := by
    unfold xAt
    rw [if_pos (by omega), ← ok.2, List.getElem?_map, Int.toNat_natCast, hx]; rfl
  have e1 : nPut X lim i p = (((x.xs ++ [p]).take (nrK lim (x.xs.length + 1)), 0), X.set i ((x.xs ++ [p]).drop (nrK lim (x.xs.length + 1)))) := by
    unfold nPut
    rw [hxa]
    simp only [Int.toNat_natCast]
    rw [if_neg (by omega), if_neg (by rw [hh]; simp)]
  refine ⟨vr, bsr, _, by rw [e1]; exact he, by rw [e1]; exact h2, ?_, h5⟩
  rw [e1, ← h4]
  refine ok.set h3 ?_
  rw [h4]
  exact drop_le ok.1.2.2.1 ok.1.2.1 (ok.1.at_ hx).2 p
theorem nput_nil (h : Own W (nrBlocks T b bl lim L ++ m) w) (ok : XsAre lim L X) {cpu p r : Int} (e1 : nPut X lim cpu p = (([], r), X)) : NPutPost W m T b bl lim X cpu p (.returned (.tuple #[.slice none 0 0, .int .i64 r])) w := by
  refine ⟨_, [], L, by rw [e1], by rw [e1]; exact SlO.nil _ _ _, by rw [e1]; exact ok, h⟩
theorem nput_spec (h : Own W (nrBlocks T b bl lim L ++ m) w) (ok : XsAre lim L X) (hl1 : 1 ≤ L.length) (cpu p : Int) :
    Calls Try.prog 80 #[.pointer (some ⟨b, 0, none⟩), .int .i64 cpu, .int .i64 p] w (NPutPost W m T b bl lim X cpu p) := by
  cases hx : xAt X cpu with
  | none =>
    refine (put_range h ok.1 hl1 cpu p (by have := ok.at_none hx; omega)).mono ?_
    rintro e w' ⟨rfl, rfl⟩
    exact nput_nil h ok (by simp [nPut, hx])
  | some xs =>
    obtain ⟨i, x, rfl, hx', rfl⟩ := ok.at_some hx
    by_cases hp : p < 0 ∨ 1024 ≤ p
    · refine (put_range h ok.1 hl1 i p (by omega)).mono ?_
      rintro e w' ⟨rfl, rfl⟩
      exact nput_nil h ok (by simp [nPut, hx, hp])
    · cases hh : xHas X p with
      | true =>
        refine (put_block h ok.1 i (List.getElem?_eq_some_iff.1 hx').1 p (by omega) (by omega) (by rw [ok.has, hh])).mono ?_
        rintro e w' ⟨rfl, ho⟩
        exact nput_nil ho ok (by simp [nPut, hx, hp, hh])
      | false =>
        refine (put_yes h ok.1 i hx' p (by omega) (by omega) (by rw [ok.has, hh])).mono ?_
        exact fun e w' hp' => nput_post h ok hx' (by omega) (by omega) hh hp'
theorem rput_spec (h : Own W (nrBlocks T b bl lim L ++ m) w) (ok : XsAre lim L X) (cpu p : Int) :
    Calls Try.prog 96 #[.pointer (some ⟨b, 0, none⟩), .int .i64 cpu, .int .i64 p] w (NPutPost W m T b bl lim X cpu p) := by
  cases hx : xAt X cpu with
  | none =>
    refine (nref.put_range h cpu p (by have := ok.at_none hx; omega)).mono ?_
    rintro e w' ⟨rfl, rfl⟩
    exact nput_nil h ok (by simp [nPut, hx])
  | some xs =>
    obtain ⟨i, x, rfl, hx', rfl⟩ := ok.at_some hx
    by_cases hp : p < 0 ∨ 1024 ≤ p
    · refine (nref.put_range h i p (by omega)).mono ?_
      rintro e w' ⟨rfl, rfl⟩
      exact nput_nil h ok (by simp [nPut, hx, hp])
    · cases hh : xHas X p with
      | true =>
        refine (nref.put_block h ok.1 i (List.getElem?_eq_some_iff.1 hx').1 p (by omega) (by omega) (by rw [ok.has, hh])).mono ?_
        rintro e w' ⟨rfl, rfl⟩
        exact nput_nil h ok (by simp [nPut, hx, hp, hh])
      | false =>
        refine (nref.put_yes h ok.1 i hx' p (by omega) (by omega) (by rw [ok.has, hh])).mono ?_
        exact fun e w' hp' => nput_post h ok hx' (by omega) (by omega) hh hp'

/-- what a Take does -/
def NTakePost (W : World) (m : List (Nat × Obj)) (T : TypeId) (b bl : Nat) (lim : Int) (X : List (List Int)) (cpu : Int) (e : Ending) (w' : World) : Prop :=
  ∃ L', e = .returned (.tuple #[.int .i64 (nTake X cpu).1.1, .bool (nTake X cpu).1.2]) ∧ XsAre lim L' (nTake X cpu).2 ∧ Own W (nrBlocks T b bl lim L' ++ m) w'
theorem ntake_nil (h : Own W (nrBlocks T b bl lim L ++ m) w) (ok : XsAre lim L X) {cpu : Int} (e1 : nTake X cpu = ((0, false), X)) : NTakePost W m T b bl lim X cpu (.returned (.tuple #[.int .i64 0, .bool false])) w :=
  ⟨L, by rw [e1], by rw [e1]; exact ok, h⟩
theorem ntake_post (ok : XsAre lim L X) {i : Nat} {x : NL} (hx : L[i]? = some x) {p : Int} {ys : List Int} (hp : x.xs = ys ++ [p]) {w' : World} {e : Ending}
    (he : e = .returned (.tuple #[.int .i64 p, .bool true]) ∧ ∃ y, NL.ok y ∧ y.xs = ys ∧ Own W (nrBlocks T b bl lim (L.set i y) ++ m) w') : NTakePost W m T b bl lim X i e w' := by
  obtain ⟨rfl, y, h1, h2, h3⟩ := he
  have hxa : xAt X (i : Int) = some x.xs := by
    unfold xAt
    rw [if_pos (by omega), ← ok.2, List.getElem?_map, Int.toNat_natCast, hx]; rfl
  have e1 : nTake X i = ((p, true), X.set i ys) := by
    unfold nTake
    rw [hxa, hp]
    simp
  refine ⟨_, by rw [e1], ?_, h3⟩
  rw [e1, ← h2]
  refine ok.set h1 ?_
  have := (ok.1.at_ hx).2
  rw [hp] at this
  simp at this
  rw [h2]; omega
theorem ntake_spec (h : Own W (nrBlocks T b bl lim L ++ m) w) (ok : XsAre lim L X) (cpu : Int) :
    Calls Try.prog 83 #[.pointer (some ⟨b, 0, none⟩), .int .i64 cpu] w (NTakePost W m T b bl lim X cpu) := by
  cases hx : xAt X cpu with
  | none =>
    refine (take_out h ok.1 cpu (ok.at_none hx)).mono ?_
    rintro e w' ⟨rfl, rfl⟩
    exact ntake_nil h ok (by simp [nTake, hx])
  | some xs =>
    obtain ⟨i, x, rfl, hx', rfl⟩ := ok.at_some hx
    rcases List.eq_nil_or_concat x.xs with hn | ⟨ys, p, hp⟩
    · refine (take_empty h ok.1 i hx' hn).mono ?_
      rintro e w' ⟨rfl, rfl⟩
      exact ntake_nil h ok (by simp [nTake, hx, hn])
    · rw [List.concat_eq_append] at hp
      exact (take_yes h ok.1 i hx' hp).mono fun e w' he => ntake_post ok hx' hp he
theorem rtake_spec (h : Own W (nrBlocks T b bl lim L ++ m) w) (ok : XsAre lim L X) (cpu : Int) :
    Calls Try.prog 91 #[.pointer (some ⟨b, 0, none⟩), .int .i64 cpu] w (NTakePost W m T b bl lim X cpu) := by
  cases hx : xAt X cpu with
  | none =>
    refine (nref.take_out h cpu (ok.at_none hx)).mono ?_
    rintro e w' ⟨rfl, rfl⟩
    exact ntake_nil h ok (by simp [nTake, hx])
  | some xs =>
    obtain ⟨i, x, rfl, hx', rfl⟩ := ok.at_some hx
    rcases List.eq_nil_or_concat x.xs with hn | ⟨ys, p, hp⟩
    · refine (nref.take_empty h ok.1 i hx' hn).mono ?_
      rintro e w' ⟨rfl, rfl⟩
      exact ntake_nil h ok (by simp [nTake, hx, hn])
    · rw [List.concat_eq_append] at hp
      exact (nref.take_yes h ok.1 i hx' hp).mono fun e w' he => ntake_post ok hx' hp he

/-- what a Drain does -/
def NDrainPost (W : World) (m : List (Nat × Obj)) (T : TypeId) (b bl : Nat) (lim : Int) (X : List (List Int)) (cpu : Int) (e : Ending) (w' : World) : Prop :=
  ∃ v bs L', e = .returned v ∧ IntsOwn true v (nDrain X cpu).1 bs ∧ XsAre lim L' (nDrain X cpu).2 ∧ Own W (bs ++ (nrBlocks T b bl lim L' ++ m)) w'
theorem ndrain_nil (h : Own W (nrBlocks T b bl lim L ++ m) w) (ok : XsAre lim L X) {cpu : Int} (hx : xAt X cpu = none) : NDrainPost W m T b bl lim X cpu (.returned (.slice none 0 0)) w := by
  have e1 : nDrain X cpu = ([], X) := by simp [nDrain, hx]
  exact ⟨_, [], L, rfl, by rw [e1]; exact SlO.nil _ _ _, by rw [e1]; exact ok, h⟩
theorem ndrain_post (ok : XsAre lim L X) {i : Nat} {x : NL} (hx : L[i]? = some x) (hxa : xAt X (i : Int) = some x.xs) {w' : World} {e : Ending}
    (he : e = .returned x.v ∧ Own W (x.bs ++ (nrBlocks T b bl lim (L.set i nlNil) ++ m)) w') : NDrainPost W m T b bl lim X i e w' := by
  have e1 : nDrain X i = (x.xs, X.set i []) := by simp [nDrain, hxa]
  exact ⟨_, _, _, he.1, by rw [e1]; exact (ok.1.at_ hx).1, by rw [e1]; exact ok.set nlNil_ok (by simp [nlNil]), he.2⟩
theorem ndrain_spec (h : Own W (nrBlocks T b bl lim L ++ m) w) (ok : XsAre lim L X) (cpu : Int) :
    Calls Try.prog 82 #[.pointer (some ⟨b, 0, none⟩), .int .i64 cpu] w (NDrainPost W m T b bl lim X cpu) := by
  cases hx : xAt X cpu with
  | none =>
    refine (drain_out h ok.1 cpu (ok.at_none hx)).mono ?_
    rintro e w' ⟨rfl, rfl⟩
    exact ndrain_nil h ok hx
  | some xs =>
    obtain ⟨i, x, rfl, hx', rfl⟩ := ok.at_some hx
    exact (drain_in h ok.1 i hx').mono fun e w' he => ndrain_post ok hx' hx he
theorem rdrain_spec (h : Own W (nrBlocks T b bl lim L ++ m) w) (ok : XsAre lim L X) (cpu : Int) :
    Calls Try.prog 94 #[.pointer (some ⟨b, 0, none⟩), .int .i64 cpu] w (NDrainPost W m T b bl lim X cpu) := by
  cases hx : xAt X cpu with
  | none =>
    refine (nref.drain_out h cpu (ok.at_none hx)).mono ?_
    rintro e w' ⟨rfl, rfl⟩
    exact ndrain_nil h ok hx
  | some xs =>
    obtain ⟨i, x, rfl, hx', rfl⟩ := ok.at_some hx
    exact (nref.drain_in h ok.1 i hx').mono fun e w' he => ndrain_post ok hx' hx he

/-- what a List does -/
def NListPost (W : World) (M : List (Nat × Obj)) (xs : List Int) (e : Ending) (w' : World) : Prop :=
  ∃ v bs, e = .returned v ∧ IntsOwn true v xs bs ∧ Own W (bs ++ M) w'
theorem nlist_spec (h : Own W (nrBlocks T b bl lim L ++ m) w) (ok : XsAre lim L X) (cpu : Int) :
    Calls Try.prog 78 #[.pointer (some ⟨b, 0, none⟩), .int .i64 cpu] w (NListPost W (nrBlocks T b bl lim L ++ m) (nList X cpu)) := by
  cases hx : xAt X cpu with
  | none =>
    refine (list_no h ok.1 cpu (ok.at_none hx)).mono ?_
    rintro e w' ⟨rfl, rfl⟩
    exact ⟨_, [], rfl, by simp [nList, hx]; exact SlO.nil _ _ _, h⟩
  | some xs =>
    obtain ⟨i, x, rfl, hx', rfl⟩ := ok.at_some hx
    refine (list_yes h ok.1 i hx').mono ?_
    rintro e w' ⟨v, bs, rfl, h1, h2⟩
    exact ⟨v, bs, rfl, by simpa [nList, hx] using h1, h2⟩
end
end Go.Proofs.Ytljcndcmdphmgaa

/-
  A map from numbers to numbers that the call owns: look-up, store, delete. No condition but the number of entries.
-/
namespace Go.Proofs.Ytljcndcmdphmgaa
open Go.RowKit
open Go.Maps (Keyed)
open Go.ChangeMaps (setBlock modify_eq_set)
/-- entries that are a function on numbers -/
structure IM (es : Array MapEntry) (n : Nat) (f : Int → Option Int) : Prop where
  size : es.size ≤ n
  ints : ∀ x ∈ es.toList, ∃ k c, x.key = .int .i64 k ∧ x.val = .int .i64 c ∧ (Lit.int .i64 k).wf = true
  apart : ∀ (i j : Nat) (x y : MapEntry), es.toList[i]? = some x → es.toList[j]? = some y → x.key = y.key → i = j
  fits : ∀ k c, f k = some c ↔ ∃ x ∈ es.toList, x.key = .int .i64 k ∧ x.val = .int .i64 c
def fPut (f : Int → Option Int) (k c : Int) : Int → Option Int := fun j => if j = k then some c else f j
def fDel (f : Int → Option Int) (k : Int) : Int → Option Int := fun j => if j = k then none else f j
theorem IM.nil : IM #[] 0 (fun _ => none) := ⟨by simp, by simp, by simp, by simp⟩
theorem int_keyed' : Keyed Try.prog 3 := Go.Maps.int_keyed Try.underlying3
theorem keyOf_i64 {k : Int} (hk : (Lit.int .i64 k).wf = true) : keyOf Try.prog 3 (.int .i64 k) = some (.int .i64 k) := Go.Maps.keyOf_int_mk Try.underlying3 hk
theorem zero_i64 (w : World) : (zeroValue 3).run Try.prog w = .ok (.int .i64 0) w := by
  have hi : (Try.prog.info? 3).map (fun i => i.zero) = some (some (.int .i64 0)) := by kernel_rfl
  cases h : Try.prog.info? 3 with
  | none => rw [h] at hi; cases hi
  | some i =>
    rw [h] at hi
    simp at hi
    simp [zeroValue, typeInfo, h, hi]
section
variable {w : World} {es : Array MapEntry} {ck n b : Nat} {f : Int → Option Int}
theorem IM.keysOk (h : IM es n f) : ∀ e ∈ es.toList, ∃ l, keyOf Try.prog 3 e.key = some l := fun e he => by
  obtain ⟨k, c, hk, -, hw⟩ := h.ints e he
  exact ⟨_, by rw [hk]; exact keyOf_i64 hw⟩
theorem IM.none_of (h : IM es n f) {k : Int} (hk : ∀ e ∈ es.toList, e.key ≠ .int .i64 k) : f k = none := by
  cases hf : f k with
  | none => rfl
  | some c =>
    obtain ⟨x, hx, h1, -⟩ := (h.fits k c).1 hf
    exact absurd h1 (hk x hx)
theorem run_mapGet (h : IM es n f) (hb : w.heap[b]? = some (.map es ck)) {k : Int} (hk : (Lit.int .i64 k).wf = true) :
    (Instr.lookup 91 (.map (some b)) (.int .i64 k) true).run Try.prog w = .ok (.tuple #[.int .i64 ((f k).getD 0), .bool (f k).isSome]) w := by
  have hkey := keyOf_i64 hk
  have K := int_keyed'
  rcases K.find w hkey es.toList h.keysOk with ⟨h1, h2⟩ | ⟨j, e0, h1, h2, h3⟩
  · have hf := h.none_of h2
    simp [Instr.lookup, run_underlying Try.underlying91, MapKept.run_getObj_map hb, K.check w _ hkey, h1, Result.andThen, hf]
  · have hm := List.mem_of_getElem? h2
    obtain ⟨k', c, e1, e2, -⟩ := h.ints e0 hm
    have hf : f k = some c := (h.fits k c).2 ⟨e0, hm, h3, e2⟩
    simp [Instr.lookup, run_underlying Try.underlying91, MapKept.run_getObj_map hb, K.check w _ hkey, h1, Result.andThen, hf, e2]
theorem run_mapPut (h : IM es n f) (hb : w.heap[b]? = some (.map es ck)) (_hn : n < maxLen) {k : Int} (hk : (Lit.int .i64 k).wf = true) (c : Int) :
    ∃ es' ck', (Instr.mapUpdate 91 (.map (some b)) (.int .i64 k) (.int .i64 c)).run Try.prog w = .ok () (setBlock w b (.map es' ck')) ∧ IM es' (n + 1) (fPut f k c) := by
  have hkey := keyOf_i64 hk
  have K := int_keyed'
  rcases K.find w hkey es.toList h.keysOk with ⟨h1, h2⟩ | ⟨j, e0, h1, h2, h3⟩
  · refine ⟨es.push ⟨.int .i64 k, .int .i64 c, ck⟩, ck + 1, ?_, ⟨by have := h.size; simp; omega, ?_, ?_, ?_⟩⟩
    · simp [Instr.mapUpdate, run_underlying Try.underlying91, MapKept.run_getObj_map hb, K.check w false hkey, h1, MapKept.run_setObj_map _ hb, Result.andThen, setBlock]
    · intro x hx
      simp only [Array.toList_push, List.mem_append, List.mem_singleton] at hx
      rcases hx with hx | rfl
      · exact h.ints x hx
      · exact ⟨k, c, rfl, rfl, hk⟩
    · intro i j x y hx hy hxy
      rw [Array.toList_push, List.getElem?_append] at hx hy
      split at hx <;> split at hy
      · exact h.apart i j x y hx hy hxy
      · have : y = ⟨.int .i64 k, .int .i64 c, ck⟩ := by
          rw [List.getElem?_singleton] at hy; split at hy <;> simp_all
        subst this
        exact absurd hxy (h2 x (List.mem_of_getElem? hx))
      · have : x = ⟨.int .i64 k, .int .i64 c, ck⟩ := by
          rw [List.getElem?_singleton] at hx; split at hx <;> simp_all
        subst this
        exact absurd hxy.symm (h2 y (List.mem_of_getElem? hy))
      · rw [List.getElem?_singleton] at hx hy
        split at hx <;> split at hy <;> first | omega | simp_all
    · intro q d
      simp only [Array.toList_push, List.mem_append, List.mem_singleton, fPut]
      by_cases hq : q = k
      · subst hq
        rw [if_pos rfl]
        constructor
        · intro hd
          simp only [Option.some.injEq] at hd
          subst hd
          exact ⟨_, .inr rfl, rfl, rfl⟩
        · rintro ⟨x, hx | rfl, e1, e2⟩
          · exact absurd e1 (h2 x hx)
          · simp only [Value.int.injEq, true_and] at e2
            rw [e2]
      · rw [if_neg hq, h.fits q d]
        constructor
        · rintro ⟨x, hx, e1, e2⟩
          exact ⟨x, .inl hx, e1, e2⟩
        · rintro ⟨x, hx | rfl, e1, e2⟩
          · exact ⟨x, hx, e1, e2⟩
          · simp only [Value.int.injEq, true_and] at e1
            exact absurd e1.symm hq
  · have hj : es[j]? = some e0 := by simpa using h2
    have hjl : j < es.toList.length := (List.getElem?_eq_some_iff.1 h2).1
    have hlist : (es.modify j (fun e' => { e' with key := .int .i64 k, val := .int .i64 c })).toList = es.toList.set j { e0 with key := .int .i64 k, val := .int .i64 c } := by rw [Array.toList_modify, modify_eq_set _ _ _ _ h2]
    have hget : ∀ i, (es.toList.set j { e0 with key := .int .i64 k, val := .int .i64 c })[i]? = if i = j then some { e0 with key := .int .i64 k, val := .int .i64 c } else es.toList[i]? := fun i => by
      rw [List.getElem?_set]
      by_cases hij : j = i
      · subst hij; rw [if_pos rfl, if_pos rfl, if_pos hjl]
      · rw [if_neg hij, if_neg (fun e => hij e.symm)]
    have hmem : ∀ x, x ∈ es.toList.set j { e0 with key := .int .i64 k, val := .int .i64 c } ↔ x = { e0 with key := .int .i64 k, val := .int .i64 c } ∨ (x ∈ es.toList ∧ x.key ≠ .int .i64 k) := fun x => by
      constructor
      · intro hx
        obtain ⟨i, hi⟩ := List.getElem?_of_mem hx
        rw [hget] at hi
        split at hi
        · exact .inl (Option.some.inj hi).symm
        · rename_i hij
          exact .inr ⟨List.mem_of_getElem? hi, fun e => hij (h.apart i j x e0 hi h2 (e.trans h3.symm))⟩
      · rintro (rfl | ⟨hx, hne⟩)
        · exact List.mem_iff_getElem?.2 ⟨j, by rw [hget, if_pos rfl]⟩
        · obtain ⟨i, hi⟩ := List.getElem?_of_mem hx
          refine List.mem_iff_getElem?.2 ⟨i, ?_⟩
          rw [hget, if_neg, hi]
          rintro rfl
          rw [h2] at hi
          cases hi
          exact hne h3
    refine ⟨es.modify j (fun e' => { e' with key := .int .i64 k, val := .int .i64 c }), ck, ?_, ⟨by have := h.size; simp; omega, ?_, ?_, ?_⟩⟩
    · simp [Instr.mapUpdate, run_underlying Try.underlying91, MapKept.run_getObj_map hb, K.check w false hkey, h1, hj, h3, K.stays w hkey, MapKept.run_setObj_map _ hb, Result.andThen, setBlock]
    · intro x hx
      rw [hlist] at hx
      rcases (hmem x).1 hx with rfl | ⟨hx, -⟩
      · exact ⟨k, c, rfl, rfl, hk⟩
      · exact h.ints x hx
    · intro i i' x y hx hy hxy
      rw [hlist, hget] at hx hy
      split at hx <;> split at hy
      · omega
      · cases hx
        rename_i h5 h6
        exact absurd (h.apart i' j y e0 hy h2 (hxy.symm.trans h3.symm)) h6
      · cases hy
        rename_i h5 h6
        exact absurd (h.apart i j x e0 hx h2 (hxy.trans h3.symm)) h5
      · exact h.apart i i' x y hx hy hxy
    · intro q d
      rw [hlist]
      simp only [fPut]
      by_cases hq : q = k
      · subst hq
        rw [if_pos rfl]
        constructor
        · intro hd
          simp only [Option.some.injEq] at hd
          subst hd
          exact ⟨_, (hmem _).2 (.inl rfl), rfl, rfl⟩
        · rintro ⟨x, hx, e1, e2⟩
          rcases (hmem x).1 hx with rfl | ⟨-, hne⟩
          · simp only [Value.int.injEq, true_and] at e2
            rw [e2]
          · exact absurd e1 hne
      · rw [if_neg hq, h.fits q d]
        constructor
        · rintro ⟨x, hx, e1, e2⟩
          exact ⟨x, (hmem x).2 (.inr ⟨hx, by rw [e1]; intro he; simp only [Value.int.injEq, true_and] at he; exact hq he⟩), e1, e2⟩
        · rintro ⟨x, hx, e1, e2⟩
          rcases (hmem x).1 hx with rfl | ⟨hx, -⟩
          · simp only [Value.int.injEq, true_and] at e1
            exact absurd e1.symm hq
          · exact ⟨x, hx, e1, e2⟩
theorem run_mapDel (h : IM es n f) (hb : w.heap[b]? = some (.map es ck)) {k : Int} (hk : (Lit.int .i64 k).wf = true) (ty : TypeId) :
    ∃ es', (Builtin.delete_ #[91, 3] ty #[.map (some b), .int .i64 k]).run Try.prog w = .ok (.tuple #[]) (setBlock w b (.map es' ck)) ∧ IM es' n (fDel f k) := by
  have hkey := keyOf_i64 hk
  have K := int_keyed'
  rcases K.find w hkey es.toList h.keysOk with ⟨h1, h2⟩ | ⟨j, e0, h1, h2, h3⟩
  · refine ⟨es, ?_, ⟨h.size, h.ints, h.apart, ?_⟩⟩
    · simp [Builtin.delete_, run_underlying Try.underlying91, MapKept.run_getObj_map hb, K.check w _ hkey, h1, MapKept.run_setObj_map _ hb, Result.andThen, setBlock]
    · intro q d
      simp only [fDel]
      by_cases hq : q = k
      · subst hq
        rw [if_pos rfl]
        constructor
        · intro hd; cases hd
        · rintro ⟨x, hx, e1, -⟩
          exact absurd e1 (h2 x hx)
      · rw [if_neg hq]; exact h.fits q d
  · have hjl : j < es.toList.length := (List.getElem?_eq_some_iff.1 h2).1
    have hjs : j < es.size := by simpa using hjl
    have hsub : (es.eraseIdxIfInBounds j).toList = es.toList.eraseIdx j := by
      unfold Array.eraseIdxIfInBounds
      rw [dif_pos hjs]
      simp
    have hmem : ∀ x, x ∈ es.toList.eraseIdx j ↔ x ∈ es.toList ∧ x.key ≠ .int .i64 k := fun x => by
      rw [List.mem_eraseIdx_iff_getElem?]
      constructor
      · rintro ⟨i, hne, hi⟩
        exact ⟨List.mem_of_getElem? hi, fun e => hne (h.apart i j x e0 hi h2 (e.trans h3.symm))⟩
      · rintro ⟨hx, hne⟩
        obtain ⟨i, hi⟩ := List.getElem?_of_mem hx
        refine ⟨i, ?_, hi⟩
        rintro rfl
        rw [h2] at hi
        cases hi
        exact hne h3
    refine ⟨es.eraseIdxIfInBounds j, ?_, ⟨Nat.le_trans (MapFrom.size_erase es j) h.size, ?_, ?_, ?_⟩⟩
    · simp [Builtin.delete_, run_underlying Try.underlying91, MapKept.run_getObj_map hb, K.check w _ hkey, h1, MapKept.run_setObj_map _ hb, Result.andThen, setBlock]
    · intro x hx
      rw [hsub] at hx
      exact h.ints x ((hmem x).1 hx).1
    · intro i i' x y hx hy hxy
      rw [hsub, List.getElem?_eraseIdx] at hx hy
      split at hx <;> split at hy <;> have := h.apart _ _ x y hx hy hxy <;> omega
    · intro q d
      rw [hsub]
      simp only [fDel]
      by_cases hq : q = k
      · subst hq
        rw [if_pos rfl]
        constructor
        · intro hd; cases hd
        · rintro ⟨x, hx, e1, -⟩
          exact absurd e1 ((hmem x).1 hx).2
      · rw [if_neg hq, h.fits q d]
        constructor
        · rintro ⟨x, hx, e1, e2⟩
          exact ⟨x, (hmem x).2 ⟨hx, by rw [e1]; intro he; simp only [Value.int.injEq, true_and] at he; exact hq he⟩, e1, e2⟩
        · rintro ⟨x, hx, e1, e2⟩
          exact ⟨x, ((hmem x).1 hx).1, e1, e2⟩
end
section
variable {W w : World} {m : List (Nat × Obj)} {b : Nat} {o : Obj} {es : Array MapEntry} {ck : Nat}
theorem Own.setMap (h : Own W ((b, .map es ck) :: m) w) (es' : Array MapEntry) (ck' : Nat) : Own W ((b, .map es' ck') :: m) (setBlock w b (.map es' ck')) := by
  have hg := h.get (List.mem_cons_self)
  have hge := h.ge (List.mem_cons_self)
  have hlt := heap_lt hg
  have hother : ∀ k, k ≠ b → (setBlock w b (.map es' ck')).heap[k]? = w.heap[k]? := fun k hk => by
    simp only [setBlock]
    rw [Array.getElem?_setIfInBounds, if_neg (fun e => hk e.symm)]
  have hb := h.below
  refine ⟨⟨hb.os, hb.tape, hb.output, by simpa [setBlock] using hb.size, fun k hk => ?_⟩, fun p hm => ?_, h.nd⟩
  · rw [hother k (by omega)]; exact hb.block k hk
  · rcases List.mem_cons.1 hm with rfl | hm
    · exact ⟨hge, by simp [setBlock, hlt]⟩
    · exact ⟨(h.at_ p (List.mem_cons_of_mem _ hm)).1, (hother p.1 (Own.ne h (b' := p.1) (o' := p.2) hm)).trans (h.at_ p (List.mem_cons_of_mem _ hm)).2⟩
end
section
variable {W w : World} {M : List (Nat × Obj)} {es : Array MapEntry} {ck n b : Nat} {f : Int → Option Int}
variable {ops : Array Oper} {rest : List Oper} {o : Oper} {a : Act} {Q : Exit → Act → World → Prop}
/-- '(at_lookup; refine wpList_mapGet rfl _ _ rfl rfl rfl hIM hb hk ?_)' -/
theorem wpList_mapGet (hg : o.guard = none) (m x : Operand) (hop : o.op = Op.lookup 91 m x true) {k : Int} (hm : a.eval m = .map (some b)) (hx : a.eval x = .int .i64 k)
    (h : IM es n f) (hb : w.heap[b]? = some (.map es ck)) (hk : (Lit.int .i64 k).wf = true)
    (hK : wpList Try.prog ops Q rest (a.put o.dst (.tuple #[.int .i64 ((f k).getD 0), .bool (f k).isSome])) w) : wpList Try.prog ops Q (o :: rest) a w := by
  refine wpList_plain hg fun K' hK' => ?_
  unfold Oper.wp
  simp [execOp, hop, hm, hx, run_mapGet h hb hk, Result.andThen]
  exact hK' _ _ hK
/-- '(at_mapUpdate; refine wpList_mapPut rfl _ _ _ rfl rfl rfl rfl hIM hO hn hk ?_; intro es' ck' k1 k2)' -/
theorem wpList_mapPut (hg : o.guard = none) (m x v : Operand) (hop : o.op = Op.mapUpdate 91 m x v) {k c : Int} (hm : a.eval m = .map (some b)) (hx : a.eval x = .int .i64 k) (hv : a.eval v = .int .i64 c)
    (h : IM es n f) (hO : Own W ((b, .map es ck) :: M) w) (hn : n < maxLen) (hk : (Lit.int .i64 k).wf = true)
    (hK : ∀ es' ck' w', IM es' (n + 1) (fPut f k c) → Own W ((b, .map es' ck') :: M) w' → wpList Try.prog ops Q rest (a.put o.dst undef) w') : wpList Try.prog ops Q (o :: rest) a w := by
  refine wpList_plain hg fun K' hK' => ?_
  obtain ⟨es', ck', hrun, h1⟩ := run_mapPut h (hO.get List.mem_cons_self) hn hk c
  unfold Oper.wp
  simp [execOp, hop, hm, hx, hv, hrun, Result.andThen]
  exact hK' _ _ (hK es' ck' _ h1 (hO.setMap es' ck'))
/-- '(at_delete; refine wpList_mapDel rfl _ _ rfl rfl rfl hIM hO hk ?_; intro es' w' k1 k2)' -/
theorem wpList_mapDel (hg : o.guard = none) (m x : Operand) (hop : o.op = Op.call { callee := Callee.builtin Builtin.delete, args := #[m, x], argTypes := #[91, 3] }) {k : Int} (hm : a.eval m = .map (some b)) (hx : a.eval x = .int .i64 k)
    (h : IM es n f) (hO : Own W ((b, .map es ck) :: M) w) (hk : (Lit.int .i64 k).wf = true)
    (hK : ∀ es' w', IM es' n (fDel f k) → Own W ((b, .map es' ck) :: M) w' → wpList Try.prog ops Q rest (a.put o.dst (.tuple #[])) w') : wpList Try.prog ops Q (o :: rest) a w := by
  refine wpList_plain hg fun K' hK' => ?_
  obtain ⟨es', hrun, h1⟩ := run_mapDel h (hO.get List.mem_cons_self) hk o.type
  unfold Oper.wp
  simp [execOp, hop, resolve, invoke, builtin, hm, hx, hrun, Result.andThen]
  exact hK' _ _ (hK es' _ h1 (hO.setMap es' ck))
end
end Go.Proofs.Ytljcndcmdphmgaa

/-
  Zones: their blocks; contracts: asked, each, drains. No condition.
-/
namespace Go.Proofs.Ytljcndcmdphmgaa
open Go.RowKit
attribute [local go_sem ↓] Go.wp_at_zero Go.wp_at_succ
/-- the table behind Free of a page, whatever it is -/
def freeT (L : List Pg) (page : Int) : List Pg := match L[page.toNat]? with
  | some (k, o, _) => if 0 ≤ page ∧ k = 2 then freeL L page.toNat o.toNat else L
  | none => L
theorem bfreeIs_T {L L' : List Pg} {page e : Int} (h : BFreeIs L page e L') : L' = freeT L page := by
  rcases h with ⟨h1, rfl, rfl⟩ | ⟨p, o, c, rfl, h1, rfl, rfl⟩
  · unfold freeT
    split
    · rename_i k o c hk
      rw [if_neg]
      rintro ⟨g1, rfl⟩
      exact h1 _ g1 hk rfl
    · rfl
  · unfold freeT
    rw [Int.toNat_natCast, h1]
    simp
theorem freeT_tab {L bs : List Pg} (hT : Tab L bs) (page : Int) : (∃ bs', Tab (freeT L page) bs') ∧ (freeT L page).length = L.length := by
  rcases bfreeIs_case hT page with h1 | ⟨p, o, c, rfl, h1⟩
  · have h : BFreeIs L page 60 L := .inl ⟨h1, rfl, rfl⟩
    rw [← bfreeIs_T h]
    exact ⟨⟨_, hT⟩, rfl⟩
  · have h : BFreeIs L p 0 (freeL L p o) := .inr ⟨p, o, c, rfl, h1, rfl, rfl⟩
    rw [← bfreeIs_T h]
    exact tab_free hT h1
theorem backs_tab {bs : List Pg} : ∀ (l : List Int) {L : List Pg}, Tab L bs → (∃ bs', Tab (l.foldl freeT L) bs') ∧ (l.foldl freeT L).length = L.length
  | [], L, h => ⟨⟨_, h⟩, rfl⟩
  | p :: l, L, h => by
    obtain ⟨⟨b, hb⟩, hl⟩ := freeT_tab h p
    have : ∀ {b : List Pg} (l : List Int) {L : List Pg}, Tab L b → (∃ bs', Tab (l.foldl freeT L) bs') ∧ (l.foldl freeT L).length = L.length := fun {b} l => by
      induction l generalizing b with
      | nil => intro L h; exact ⟨⟨_, h⟩, rfl⟩
      | cons q l ih =>
        intro L h
        obtain ⟨⟨b', hb'⟩, hl'⟩ := freeT_tab h q
        obtain ⟨h1, h2⟩ := ih hb'
        exact ⟨h1, h2.trans hl'⟩
    obtain ⟨h1, h2⟩ := this l hb
    exact ⟨h1, h2.trans hl⟩
section
variable {W w : World} {M m zs : List (Nat × Obj)} {zb : Nat} {L : List Pg} {X : List (List Int)} {f : Int → Option Int} {n : Nat}
/-- a zone: its blocks -/
def zBlk (zb pb nb mb : Nat) (C N : Int) : Nat × Obj := (zb, .cells #[.pointer (some ⟨pb, 0, none⟩), .pointer (some ⟨nb, 0, none⟩), .int .i64 C, .int .i64 N, .map (some mb)] 93)
structure ZIs (zb pb nb nl mb : Nat) (L : List Pg) (X : List (List Int)) (f : Int → Option Int) (n : Nat) (bl : List (Nat × Obj)) (Ln : List NL) (es : Array MapEntry) (ck : Nat) (zs : List (Nat × Obj)) : Prop where
  bud : BdO pb L bl
  nr : XsAre 6 Ln X
  im : IM es n f
  tab : ∃ bs, Tab L bs
  l1 : 1 ≤ L.length
  l2 : L.length ≤ 1024
  x1 : 1 ≤ X.length
  xb : ∀ xs ∈ X, ∀ p ∈ xs, 0 ≤ p ∧ p < 1024
  eq : zs = zBlk zb pb nb mb X.length L.length :: (mb, .map es ck) :: (bl ++ nrBlocks 132 nb nl 6 Ln)
def ZO (zb : Nat) (L : List Pg) (X : List (List Int)) (f : Int → Option Int) (n : Nat) (zs : List (Nat × Obj)) : Prop := ∃ pb nb nl mb bl Ln es ck, ZIs zb pb nb nl mb L X f n bl Ln es ck zs
theorem z_bud {α : Type} (x y : α) (bl nr m : List α) : ((x :: y :: (bl ++ nr)) ++ m).Perm (bl ++ (x :: y :: (nr ++ m))) := by
  simp only [List.cons_append, List.append_assoc]
  exact ((List.perm_middle (a := x) (l₁ := bl) (l₂ := y :: (nr ++ m))).trans (List.Perm.cons x List.perm_middle)).symm
theorem z_near {α : Type} (x y : α) (bl nr m : List α) : ((x :: y :: (bl ++ nr)) ++ m).Perm (nr ++ (x :: y :: (bl ++ m))) := by
  simp only [List.cons_append, List.append_assoc]
  refine (List.Perm.cons x (List.Perm.cons y (perm_swap _ _ _))).trans ?_
  exact ((List.perm_middle (a := x) (l₁ := nr) (l₂ := y :: (bl ++ m))).trans (List.Perm.cons x List.perm_middle)).symm
theorem z_map {α : Type} (x y : α) (bl nr m : List α) : ((x :: y :: (bl ++ nr)) ++ m).Perm (y :: (x :: (bl ++ nr)) ++ m) := List.Perm.swap _ _ _
theorem zcells {pb nb mb : Nat} {C N : Int} {t : List (Nat × Obj)} (h : Own W (zBlk zb pb nb mb C N :: t) w) :
    w.cell? ⟨zb, 0, none⟩ = some (.pointer (some ⟨pb, 0, none⟩)) ∧ w.cell? ⟨zb, 1, none⟩ = some (.pointer (some ⟨nb, 0, none⟩)) ∧ w.cell? ⟨zb, 2, none⟩ = some (.int .i64 C) ∧ w.cell? ⟨zb, 3, none⟩ = some (.int .i64 N) ∧ w.cell? ⟨zb, 4, none⟩ = some (.map (some mb)) :=
  ⟨h.cell List.mem_cons_self 0, h.cell List.mem_cons_self 1, h.cell List.mem_cons_self 2, h.cell List.mem_cons_self 3, h.cell List.mem_cons_self 4⟩
theorem zcells' {pb nb mb : Nat} {C N : Int} {t : List (Nat × Obj)} (h : Own W t w) (hm : zBlk zb pb nb mb C N ∈ t) :
    w.cell? ⟨zb, 0, none⟩ = some (.pointer (some ⟨pb, 0, none⟩)) ∧ w.cell? ⟨zb, 1, none⟩ = some (.pointer (some ⟨nb, 0, none⟩)) ∧ w.cell? ⟨zb, 2, none⟩ = some (.int .i64 C) ∧ w.cell? ⟨zb, 3, none⟩ = some (.int .i64 N) ∧ w.cell? ⟨zb, 4, none⟩ = some (.map (some mb)) :=
  ⟨h.cell hm 0, h.cell hm 1, h.cell hm 2, h.cell hm 3, h.cell hm 4⟩
/-- what asked answers -/
def askE (C cpu : Int) : Int := if cpu < 0 ∨ C ≤ cpu then 9 else 0
set_option maxHeartbeats 400000 in
theorem asked_spec (h : Own W (zs ++ m) w) (hz : ZO zb L X f n zs) (cpu : Int) :
    Calls Try.prog 77 #[.pointer (some ⟨zb, 0, none⟩), .int .i64 cpu] w fun e w' => e = .returned (.int .i64 (askE X.length cpu)) ∧ w = w' := by
  obtain ⟨pb, nb, nl, mb, bl, Ln, es, ck, hi⟩ := hz
  rw [hi.eq] at h
  obtain ⟨-, -, y2, -, -⟩ := zcells h
  have hX := hi.x1
  obtain ⟨C, hC⟩ : ∃ C, X.length = C := ⟨_, rfl⟩
  rw [hC] at y2 hX ⊢
  have hc0 : ((C : Int) == 0) = false := beq_eq_false_iff_ne.2 (by omega)
  clear hC hi h
  have hcase : (cpu < 0) ∨ (0 ≤ cpu ∧ (C : Int) ≤ cpu) ∨ (0 ≤ cpu ∧ cpu < (C : Int)) := by omega
  rcases hcase with h1 | ⟨h1, h2⟩ | ⟨h1, h2⟩
  · have he : askE C cpu = 9 := by unfold askE; rw [if_pos (by omega)]
    rw [he]
    clear he
    go_enter Try.func77, Try.ntmps77
    go_wp2_with fail
    go_ret
    exact ⟨rfl, rfl⟩
  · have he : askE C cpu = 9 := by unfold askE; rw [if_pos (by omega)]
    rw [he]
    clear he
    go_enter Try.func77, Try.ntmps77
    go_wp2_with fail
    go_ret
    exact ⟨rfl, rfl⟩
  · have he : askE C cpu = 0 := by unfold askE; rw [if_neg (by omega)]
    rw [he]
    clear he
    go_enter Try.func77, Try.ntmps77
    go_wp2_with fail
    go_ret
    exact ⟨rfl, rfl⟩
theorem asked_nil (cpu : Int) (w : World) :
    Calls Try.prog 77 #[.pointer none, .int .i64 cpu] w fun e w' => e = .returned (.int .i64 1) ∧ w = w' := by
  go_enter Try.func77, Try.ntmps77
  go_wp2_with fail
  go_ret
  exact ⟨rfl, rfl⟩
set_option maxHeartbeats 2000000 in
theorem each_spec {ex : Bool} {pb : Nat} {bl bs : List (Nat × Obj)} {bT : List Pg} {v : Value} {l : List Int} (h : Own W (bs ++ (bl ++ M)) w) (ho : IntsOwn ex v l bs) (hb : BdO pb L bl) (hT : Tab L bT) (hL1 : 1 ≤ L.length) (hL : L.length ≤ 1024) :
    Calls Try.prog 81 #[v, .func (.func 25) #[.pointer (some ⟨pb, 0, none⟩)] #[]] w fun e w' => ∃ bl', e = .returned (.tuple #[]) ∧ BdO pb (l.foldl freeT L) bl' ∧ Own W (bs ++ (bl' ++ M)) w' := by
  obtain ⟨A, c, rfl, hc, hcm⟩ := ho.slice
  unfold maxLen at hcm
  obtain ⟨z, hz⟩ : ∃ z, l.length = z := ⟨_, rfl⟩
  have HO := Lib.hid ho
  have HZ := Lib.hid hz
  have HB := Lib.hid hb
  have HT := Lib.hid hT
  obtain ⟨N, hN⟩ : ∃ N, L.length = N := ⟨_, rfl⟩
  have HN := Lib.hid hN
  rw [hN] at hL1 hL
  rw [hz] at hc ⊢
  clear hz ho hb hT hN
  go_enter Try.func81, Try.ntmps81
  go_wp2_with fail
  go_loopw [8] (fun iv wr => ∃ (i : Nat) (bl' : List (Nat × Obj)), iv = .int .i64 i ∧ i ≤ z ∧ Hid (BdO pb ((l.take i).foldl freeT L) bl') ∧ Own W (bs ++ (bl' ++ M)) wr) (fun iv _ => z - (intOf iv).toNat)
  case atStart => exact ⟨0, bl, rfl, by omega, HB, h⟩
  case round =>
    clear h HB
    obtain ⟨i, bl', rfl, hi, HB, hr⟩ := hrel
    by_cases hlt : i < z
    · have hlti : (i : Int) < z := by omega
      have hi0 : (0 : Int) ≤ i := by omega
      obtain ⟨x, hx⟩ : ∃ x, l[i]? = some x := ⟨_, List.getElem?_eq_getElem (by have := HZ.out; omega)⟩
      obtain ⟨g, cp, cur, hv, -⟩ := HO.out.form (by have := HZ.out; omega)
      rw [HZ.out] at hv
      simp only [Value.slice.injEq] at hv
      obtain ⟨rfl, -, rfl⟩ := hv
      have cx := SlO.cell HO.out hr (by rw [HZ.out]) (ints_get hx)
      obtain ⟨⟨bT', hT'⟩, hl'⟩ := backs_tab (l.take i) HT.out
      have hfold : (l.take (i + 1)).foldl freeT L = freeT ((l.take i).foldl freeT L) x := by
        rw [List.take_succ_eq_append_getElem (by have := HZ.out; omega), List.foldl_append]
        have : l[i]'(by have := HZ.out; omega) = x := by
          have := (List.getElem?_eq_some_iff.1 hx).2
          exact this
        rw [this]
        rfl
      rw [HN.out] at hl'
      have HF := Lib.hid hfold
      have hfree := free_is hr.swap HB.out hT' (by rw [hl']; omega) (by rw [hl']; omega) x
      have HFR := Lib.hid hfree
      clear hfold hx hT' hl' hfree
      go_wp2_with fail
      refine HFR.out.mono ?_
      rintro e w2 ⟨er, L2, bl2, rfl, HI, HB2, h2⟩
      have hL2 := bfreeIs_T HI.out
      have B2 : Hid (BdO pb ((l.take (i + 1)).foldl freeT L) bl2) := by
        show BdO pb ((l.take (i + 1)).foldl freeT L) bl2
        rw [HF.out, ← hL2]
        exact HB2.out
      clear hL2
      go_wp2_with fail
      exact ⟨⟨i + 1, bl2, by go_num, by omega, B2, h2.swap⟩, by simp [intOf]; omega⟩
    · obtain rfl : i = z := by omega
      have hlti : ¬ (i : Int) < i := by omega
      have hb := HB.out
      rw [List.take_of_length_le (by have := HZ.out; omega)] at hb
      have HB' := Lib.hid hb
      clear hb
      go_wp2_with fail
      go_end0
      exact ⟨rfl, bl', HB'.out, hr⟩
end
end Go.Proofs.Ytljcndcmdphmgaa
