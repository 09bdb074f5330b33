/-
  wainscotlaw07.NearOnce answers true, whatever it is given.
-/
import Derived.Test.YtpmnababdjdniaaNearOncePlain
import Derived.Test.YtpmnababdjdniaaBring
import Derived.Test.YtpmnababdjdniaaArgs
import Derived.Test.YtpmnababdjdniaaAlloc
namespace Go.Proofs.Ytpmnababdjdniaa.nearOnce
open Go.RowKit
theorem arr_info : (Try.prog.info? 63).map (fun i => (i.zero, i.size, i.bytes)) = some (some (.agg (Array.replicate 1024 (.int .i64 0))), 1024, 8192) := by kernel_rfl

set_option maxRecDepth 100000 in
set_option maxHeartbeats 4000000 in
theorem walk {W w : World} (h : Own W [] w) (cpus lim : Int) (xc : (Lit.int .i64 cpus).wf = true) (xl : (Lit.int .i64 lim).wf = true) (A : Option Addr) (len cap : Nat) (hlen : len ≤ maxLen) (hA : FlatAt W [some .i64, some .i64, some .i64] A len) :
    Calls Try.prog 8 #[.int .i64 cpus, .int .i64 lim, .slice A len cap] w fun e w' => e = .returned (.bool true) ∧ Own W [] w' := by
  unfold maxLen at hlen
  have bl0 := emod_bd lim 65 (by omega)
  have bc0 := emod_bd cpus 8 (by omega)
  obtain ⟨ia, hia, hza, _, _⟩ := info_get arr_info
  go_enter Try.func8, Try.ntmps8
  go_wp2_with fail
  refine (works07_spec h).mono ?_
  rintro e w1 ⟨rfl, h1⟩
  go_wp2_with fail
  refine (bring_spec cpus 8 (by omega) (by omega) xc _).mono ?_
  rintro e w1 ⟨rfl, rfl⟩
  go_wp2_with fail
  refine (bring_spec lim 65 (by omega) (by omega) xl _).mono ?_
  rintro e w1 ⟨rfl, rfl⟩
  obtain ⟨C, hC⟩ := Int.eq_ofNat_of_zero_le (show 0 ≤ 1 + cpus % 8 by omega)
  have bC : 1 ≤ C ∧ C ≤ 8 := by omega
  have hwC : IntKind.i64.wrap (1 + cpus % 8) = (C : Int) := by rw [IntWalk.i64_in] <;> omega
  generalize lim % 65 = lim at bl0 ⊢
  go_wp2_with fail
  refine (nrNew_ok h1 C lim (by omega) (by omega) (by omega) (by omega)).mono ?_
  rintro e w2 ⟨b, bl, rfl, h2⟩
  have ok0 : XsAre lim (List.replicate (C : Int).toNat nlNil) (List.replicate C []) := by rw [Int.toNat_natCast]; exact xsNew C (by omega) (by omega) (by omega)
  have g0 : Good lim (List.replicate C []) := by
    have e0 : (List.replicate C ([] : List Int)).flatten = [] := by simp
    refine ⟨by rw [e0]; simp, by rw [e0]; simp, fun xs hx => ?_⟩
    rw [List.eq_of_mem_replicate hx]
    simpa using bl0.1
  have hm0 : Array.replicate 1024 (Value.int .i64 0) = rowOf 1024 (mark (List.replicate C ([] : List Int)).flatten) := by
    have e0 : (List.replicate C ([] : List Int)).flatten = [] := by simp
    rw [e0]
    have : mark [] = fun _ => 0 := by funext p; simp [mark]
    rw [this, ← rowOf_rep]
  have hX0 : (List.replicate C ([] : List Int)).length = C := by simp
  generalize List.replicate C ([] : List Int) = X0 at ok0 g0 hm0 hX0
  generalize List.replicate (C : Int).toNat nlNil = L0 at ok0 h2
  go_wp2_with (refine wpList_new (by rfl) 63 (by rfl) _ _ hia hza ?_)
  have h3 := h2.new1 (.cells (Array.replicate 1024 (.int .i64 0)) 63)
  rw [hm0] at h3
  clear hm0 hia hza h1 h
  generalize hhb : w2.heap.size = hb at h3 ⊢
  clear hhb
  go_loopw [10] (fun i wr => ∃ (k : Nat) (X : List (List Int)) (L : List NL), k ≤ len ∧ k ≤ 150 ∧ i = .int .i64 k ∧ Good lim X ∧ X.length = C ∧ XsAre lim L X ∧ Own W (nrBlocks 72 b bl lim L ++ (hb, .cells (rowOf 1024 (mark X.flatten)) 63) :: []) wr) (fun i _ => 150 - (intOf i).toNat)
  case atStart => exact ⟨0, X0, L0, by omega, by omega, rfl, g0, hX0, ok0, h3⟩
  case round =>
    obtain ⟨k, X, L, hk, hk1, rfl, hg, hX, ok, hr⟩ := hrel
    by_cases hlt : k < len ∧ k < 150
    · obtain ⟨B, o, rfl, hB, hd⟩ := hA (by omega)
      obtain ⟨_, e0, d0, rfl, x0⟩ := hd k hlt.1 0 _ rfl
      obtain ⟨_, e1, d1, rfl, x1⟩ := hd k hlt.1 1 _ rfl
      obtain ⟨_, e2, d2, rfl, x2⟩ := hd k hlt.1 2 _ rfl
      rw [← hr.old (by exact hB)] at e0 e1 e2
      simp only [List.length_cons, List.length_nil, Nat.zero_add, Nat.reduceAdd, Nat.add_zero] at e0 e1 e2
      clear hd hA h3 h2 ok0 g0
      have bk := emod_bd d0 3 (by omega)
      have bc := emod_bd d1 C (by omega)
      have bp := emod_bd d2 1024 (by omega)
      have hhb := row_lt hr
      go_upto_block 2 with (first | (go_at_call_has 19 (Value.int .i64 d0); refine (bring_spec d0 3 (by omega) (by omega) x0 _).mono ?_; rintro e w' ⟨rfl, rfl⟩) | (go_at_call_has 19 (Value.int .i64 d2); refine (bring_spec d2 1024 (by omega) (by omega) x2 _).mono ?_; rintro e w' ⟨rfl, rfl⟩) | (go_at_call_has 19 (Value.int .i64 d1); refine (bring_spec d1 C (by omega) (by omega) x1 _).mono ?_; rintro e w' ⟨rfl, rfl⟩))
      have ha := hr.alloc (.cells #[.int .i64 d0, .int .i64 d1, .int .i64 d2] 59)
      generalize wr.alloc (.cells #[.int .i64 d0, .int .i64 d1, .int .i64 d2] 59) = wa at ha ⊢
      clear e0 e1 e2 hhb hr
      obtain ⟨G, hG⟩ := Int.eq_ofNat_of_zero_le (show 0 ≤ d2 % 1024 by omega)
      have bG : G < 1024 := by omega
      rw [hG]
      clear hG bp
      generalize d0 % 3 = K at bk ⊢
      generalize d1 % (C : Int) = Z at bc ⊢
      go_cut [14] (fun v w => ∃ (X' : List (List Int)) (L' : List NL) (gone : List Int) (bs : List (Nat × Obj)) (A' : Option Addr) (c' : Nat), X'.length = C ∧ Met lim X' gone ∧ XsAre lim L' X' ∧ v = .slice A' gone.length c' ∧ IntsOwn false (.slice A' gone.length c') gone bs ∧ Own W (bs ++ (nrBlocks 72 b bl lim L' ++ (hb, .cells (rowOf 1024 (mark (X'.flatten ++ gone))) 63) :: [])) w)
      case first =>
        have g0 : (0 : Int) ≤ G := by omega
        have g1 : (G : Int) < 1024 := by omega
        have z1 : Z < X.length := by omega
        go_wp2_with fail
        · by_cases hp : (G : Int) ∈ X.flatten
          · have hm : mark X.flatten G = 1 := by simpa using mark_yes g0 hp
            refine (nput_at ha ok (by omega) Z G (put_no bc.1 z1 g0 g1 hp)).mono ?_
            rintro e w5 ⟨A5, c5, b5, L5, rfl, hv, o5, h5⟩
            have q5 := row_at h5.dropL (i := G) (by omega)
            rw [hm] at q5
            have HP := Lib.hid hp
            clear hp hm
            go_wp2_with fail
            go_meet
            case rel => exact ⟨X, L5, [], b5, A5, c5, hX, hg.met, o5, rfl, hv, by rw [List.append_nil]; exact h5⟩
          · have hm : mark X.flatten G = 0 := by simpa using mark_no g0 hp
            obtain ⟨out, X', he, ht⟩ := put_yes' bl0.1 hg bc.1 z1 g0 g1 hp
            refine (nput_at ha ok (by omega) Z G he).mono ?_
            rintro e w5 ⟨A5, c5, b5, L5, rfl, hv, o5, h5⟩
            have h5' : Own W ((b5 ++ nrBlocks 72 b bl lim L5) ++ (hb, .cells (rowOf 1024 (mark X.flatten)) 63) :: []) w5 := by rw [List.append_assoc]; exact h5
            have q5 := row_at h5' (i := G) (by omega)
            have qf5 := row_free h5' (i := G)
            have hl5 := row_lt h5'
            rw [hm] at q5
            have h6 := row_set h5' (i := G) (by omega) 1 (mark (X'.flatten ++ out)) (fun j _ => by rw [ht.mark]; simpa using mark_put (S := X.flatten) g0 j)
            rw [List.append_assoc] at h6
            have HM := Lib.hid (ht.met hg (fun p hp' => by rw [List.mem_singleton.1 hp']; exact ⟨hp, g0, g1⟩) (by simp))
            have HX' := Lib.hid ht.1
            clear hp hm he ht h5 h5'
            go_wp2_with fail
            go_meet
            case rel => exact ⟨X', L5, out, b5, A5, c5, HX'.out.trans hX, HM.out, o5, rfl, hv, h6⟩
        · rcases take_no bc.1 z1 hg with he | ⟨p, X', he, ht⟩
          · refine (ntake_at ha ok Z he).mono ?_
            rintro e w5 ⟨L5, rfl, o5, h5⟩
            clear he
            go_wp2_with fail
            go_meet
            case rel => exact ⟨X, L5, [], [], none, 0, hX, hg.met, o5, rfl, SlO.nil _ _ _, by rw [List.append_nil]; exact h5⟩
          · refine (ntake_at ha ok Z he).mono ?_
            rintro e w5 ⟨L5, rfl, o5, h5⟩
            have HM := Lib.hid (ht.met hg (fun p hp' => by simp at hp') (by simp))
            have HX' := Lib.hid ht.1
            have hmk := ht.mark
            rw [List.append_nil] at hmk
            rw [← hmk] at h5
            clear he ht hmk
            have hnil : IntsOwn true (.slice none 0 0) [] [] := SlO.nil _ _ _
            have h5' : Own W ([] ++ (nrBlocks 72 b bl lim L5 ++ (hb, .cells (rowOf 1024 (mark (X'.flatten ++ [p]))) 63) :: [])) w5 := h5
            go_wp2_with (at_builtin; refine wpList_app_ints (by rfl) _ _ (by rfl) (by rfl) (by rfl) hnil (h5'.alloc _) (src_one w5 p) (by simp) ?_; intro v' w6 bs' h6 h7 h8; obtain ⟨A6, c6, rfl, _⟩ := h6.slice)
            go_meet
            case rel => exact ⟨X', L5, [p], bs', A6, c6, HX'.out.trans hX, HM.out, o5, rfl, h6.weak, h7⟩
        · obtain ⟨out, X', he, ht⟩ := drain_yes bc.1 z1 bl0.1 hg
          refine (ndrain_at ha ok Z he).mono ?_
          rintro e w5 ⟨A5, c5, b5, L5, rfl, hv, o5, h5⟩
          have HM := Lib.hid (ht.met hg (fun p hp' => by simp at hp') (by simp))
          have HX' := Lib.hid ht.1
          have hmk := ht.mark
          rw [List.append_nil] at hmk
          rw [← hmk] at h5
          clear he ht hmk
          go_wp2_with fail
          go_meet
          case rel => exact ⟨X', L5, out, b5, A5, c5, HX'.out.trans hX, HM.out, o5, rfl, hv, h5⟩
      case rest =>
        clear ha ok hX hg
        obtain ⟨X', L', gone, bs, A', c', hX', hm, ok', rfl, hv, hr⟩ := hcut
        have hgl := met_len hm
        go_wp2_with fail
        obtain ⟨wo, rfl⟩ : ∃ wo : World, wo = wr := ⟨_, rfl⟩
        go_loopw [19] (fun i wr => ∃ j : Nat, j ≤ gone.length ∧ i = .int .i64 j ∧ Met lim X' (gone.drop j) ∧ Own W (bs ++ (nrBlocks 72 b bl lim L' ++ (hb, .cells (rowOf 1024 (mark (X'.flatten ++ gone.drop j))) 63) :: [])) wr) (fun i _ => (gone.length - intOf i).toNat)
        case atStart => exact ⟨0, by omega, rfl, hm, hr⟩
        case round =>
          clear hm hr
          obtain ⟨j, hj, rfl, hmj, hr⟩ := hrel
          by_cases hlj : j < gone.length
          · obtain ⟨p, hp⟩ : ∃ p, gone[j]? = some p := ⟨_, List.getElem?_eq_getElem hlj⟩
            have hdr : gone.drop j = p :: gone.drop (j + 1) := by
              rw [List.drop_eq_getElem_cons hlj]
              rw [List.getElem?_eq_getElem hlj] at hp
              rw [Option.some.inj hp]
            rw [hdr] at hmj hr
            obtain ⟨p0, p1, hmark, hmet, hset⟩ := hmj.strike
            obtain ⟨P, rfl⟩ := Int.eq_ofNat_of_zero_le p0
            rw [Int.toNat_natCast] at hmark hset
            obtain ⟨g, cap', cur, he, _⟩ := hv.form (by omega)
            cases he
            have qj := ints_cell hv hr rfl hp
            have hr' : Own W ((bs ++ nrBlocks 72 b bl lim L') ++ (hb, .cells (rowOf 1024 (mark (X'.flatten ++ ((P : Nat) : Int) :: gone.drop (j + 1)))) 63) :: []) wr := by rw [List.append_assoc]; exact hr
            have q := row_at hr' (i := P) (by omega)
            rw [hmark] at q
            have qf := row_free hr' (i := P)
            have hl5 := row_lt hr'
            have h6 := row_set hr' (i := P) (by omega) 0 (mark (X'.flatten ++ gone.drop (j + 1))) (fun i _ => hset i)
            rw [List.append_assoc] at h6
            have HM := Lib.hid hmet
            have hw : IntKind.i64.wrap ((j : Int) + 1) = ((j + 1 : Nat) : Int) := by rw [IntWalk.i64_in] <;> omega
            have j0 : (0 : Int) ≤ j := by omega
            have j1 : (j : Int) < gone.length := by omega
            have P1 : (P : Int) < 1024 := by omega
            clear hmark hset hmet hmj hr hr' hdr hp
            go_wp2_with (go_at_call 19; refine (bring_id P 1024 (by omega) (by omega) (by omega) _).mono ?_; rintro e w5 ⟨rfl, rfl⟩)
            go_roundw
            case rel => exact ⟨j + 1, by omega, rfl, HM.out, h6⟩
            case measure => simp [intOf]; omega
          · have hje : j = gone.length := by omega
            subst hje
            rw [List.drop_length] at hmj hr
            rw [List.append_nil] at hr
            have hg := hmj.good
            have hr := hr.dropL
            have hfl := good_len hg
            have hall := total_all hg.1 hg.2.1
            clear hmj hv
            go_wp2_with fail
            obtain ⟨wp, rfl⟩ : ∃ wp : World, wp = wr := ⟨_, rfl⟩
            go_loopw [21, 22] (fun n k wr => ∃ z : Nat, z ≤ C ∧ k = .int .i64 z ∧ n = .int .i64 ((X'.take z).flatten.length : Int) ∧ Own W (nrBlocks 72 b bl lim L' ++ (hb, .cells (rowOf 1024 (mark X'.flatten)) 63) :: []) wr) (fun _ k _ => (C - intOf k).toNat)
            case atStart => exact ⟨0, by omega, rfl, rfl, hr⟩
            case round =>
              clear hr
              obtain ⟨z, hz, rfl, rfl, hr⟩ := hrel
              by_cases hzC : z < C
              · obtain ⟨xs, hx⟩ : ∃ xs, X'[z]? = some xs := ⟨_, List.getElem?_eq_getElem (by omega)⟩
                have hxl := hg.2.2 xs (List.mem_of_getElem? hx)
                have hmem : ∀ p ∈ xs, p ∈ X'.flatten := fun p hp => List.mem_flatten.2 ⟨xs, List.mem_of_getElem? hx, hp⟩
                have hsum := flatten_take hx
                have hf1 := flatten_le (X := X') (z + 1)
                have HMEM := Lib.hid hmem
                generalize (X'.take z).flatten.length = U at hsum ⊢
                obtain ⟨V, hV⟩ : ∃ V, (X'.take (z + 1)).flatten.length = V := ⟨_, rfl⟩
                rw [hV] at hsum hf1
                have HV := Lib.hid hV
                clear hV
                go_wp2_with fail
                refine (nlist_at hr ok' z (nList_at hx)).mono ?_
                rintro e w5 ⟨A5, c5, b5, rfl, hv5, h5⟩
                have hw : IntKind.i64.wrap ((U : Int) + (xs.length : Int)) = (V : Int) := by rw [IntWalk.i64_in] <;> omega
                have hw2 : IntKind.i64.wrap ((z : Int) + 1) = ((z + 1 : Nat) : Int) := by rw [IntWalk.i64_in] <;> omega
                clear hmem hr
                go_wp2_with fail
                obtain ⟨wq, rfl⟩ : ∃ wq : World, wq = wr := ⟨_, rfl⟩
                go_loopw [24] (fun i wr => ∃ j : Nat, j ≤ xs.length ∧ i = .int .i64 j ∧ Own W (b5 ++ (nrBlocks 72 b bl lim L' ++ (hb, .cells (rowOf 1024 (mark X'.flatten)) 63) :: [])) wr) (fun i _ => (xs.length - intOf i).toNat)
                case atStart => exact ⟨0, by omega, rfl, h5⟩
                case round =>
                  clear h5
                  obtain ⟨j, hj, rfl, hr⟩ := hrel
                  by_cases hlj : j < xs.length
                  · obtain ⟨p, hp⟩ : ∃ p, xs[j]? = some p := ⟨_, List.getElem?_eq_getElem hlj⟩
                    have hpm := HMEM.out p (List.mem_of_getElem? hp)
                    obtain ⟨p0, p1⟩ := hg.2.1 p hpm
                    have hmark := mark_yes p0 hpm
                    have hhas : xHas X' p = true := by rw [xHas_mem]; simpa using hpm
                    obtain ⟨P, rfl⟩ := Int.eq_ofNat_of_zero_le p0
                    rw [Int.toNat_natCast] at hmark
                    obtain ⟨g, cap', cur, he, _⟩ := hv5.form (by omega)
                    cases he
                    have qj := ints_cell hv5 hr rfl hp
                    have q := row_at hr.dropL (i := P) (by omega)
                    rw [hmark] at q
                    have hw3 : IntKind.i64.wrap ((j : Int) + 1) = ((j + 1 : Nat) : Int) := by rw [IntWalk.i64_in] <;> omega
                    have j0 : (0 : Int) ≤ j := by omega
                    have j1 : (j : Int) < xs.length := by omega
                    have P1 : (P : Int) < 1024 := by omega
                    have HH := Lib.hid hhas
                    clear hmark hhas hpm hp
                    go_wp2_with (first | (go_at_call 19; refine (bring_id P 1024 (by omega) (by omega) (by omega) _).mono ?_; rintro e w5 ⟨rfl, rfl⟩) | (go_at_call 33; refine (nhas_at hr.swap ok' P HH.out).mono ?_; rintro e w6 ⟨rfl, h6⟩))
                    go_roundw
                    case rel => exact ⟨j + 1, by omega, rfl, h6.swap⟩
                    case measure => simp [intOf]; omega
                  · have hje : j = xs.length := by omega
                    subst hje
                    go_wp2_with fail
                    go_roundw
                    case rel => exact ⟨z + 1, by omega, rfl, by rw [HV.out, hsum], hr.dropL⟩
                    case measure => simp [intOf]; omega
              · have hzC' : z = C := by omega
                subst hzC'
                have ht : X'.take z = X' := List.take_of_length_le (by omega)
                rw [ht]
                rw [← hall]
                clear hall ht
                go_wp2_with fail
                obtain ⟨wq, rfl⟩ : ∃ wq : World, wq = wr := ⟨_, rfl⟩
                go_loopw [25, 26] (fun s k wr => ∃ y : Nat, y ≤ 1024 ∧ k = .int .i64 y ∧ s = .int .i64 (total X'.flatten y) ∧ Own W (nrBlocks 72 b bl lim L' ++ (hb, .cells (rowOf 1024 (mark X'.flatten)) 63) :: []) wr) (fun _ k _ => (1024 - intOf k).toNat)
                case atStart => exact ⟨0, by omega, rfl, rfl, hr⟩
                case round =>
                  clear hr
                  obtain ⟨y, hy, rfl, rfl, hr⟩ := hrel
                  by_cases hy4 : y < 1024
                  · have q := row_at hr (i := y) hy4
                    have b1 := total_bd X'.flatten y
                    have b2 := mark_bd X'.flatten y
                    have hs1 : total X'.flatten (y + 1) = total X'.flatten y + mark X'.flatten y := rfl
                    have HS := Lib.hid hs1
                    clear hs1
                    generalize total X'.flatten y = U at b1 HS ⊢
                    generalize mark X'.flatten y = V at b2 HS q
                    have hw : IntKind.i64.wrap (U + V) = U + V := by rw [IntWalk.i64_in] <;> omega
                    have hw2 : IntKind.i64.wrap ((y : Int) + 1) = ((y + 1 : Nat) : Int) := by rw [IntWalk.i64_in] <;> omega
                    have y0 : (0 : Int) ≤ y := by omega
                    have y1 : (y : Int) < 1024 := by omega
                    go_wp2_with fail
                    go_roundw
                    case rel => exact ⟨y + 1, by omega, rfl, by rw [HS.out], hr⟩
                    case measure => simp [intOf]; omega
                  · have hy' : y = 1024 := by omega
                    subst hy'
                    go_wp2_with fail
                    go_roundw
                    case rel => exact ⟨k + 1, X', L', by omega, by omega, by go_num, hg, hX', ok', hr⟩
                    case measure => simp [intOf]; omega
    · clear hA
      have hor : len ≤ k ∨ 150 ≤ k := by omega
      clear hlt
      rcases hor with hlt | hlt
      all_goals go_wp2_with fail
      all_goals
        go_ret
        exact ⟨rfl, hr.dropL.skip⟩
end Go.Proofs.Ytpmnababdjdniaa.nearOnce
