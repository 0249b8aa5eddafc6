/- TopCarries: what E answers. -/
import Derived.Test.YtkdccglaeegdaaaDoorLC4
import Derived.Test.YtkdccglaeegdaaaDoorL11D
import Derived.Test.YtkdccglaeegdaaaDoorTLy
set_option autoImplicit false
set_option linter.unusedVariables false
set_option linter.unusedSimpArgs false
namespace Tree.C12
open Go Tree Tree.W11
set_option maxHeartbeats 8000000
set_option maxRecDepth 100000
theorem zr_get {Z : List Int} {i : Nat} {z : Int} (h : Z[i]? = some z) : (Z.map zr)[((i : Nat) : Int).toNat]? = some [.int .i64 z] := by
  show (Z.map zr)[i]? = _
  rw [List.getElem?_map, h]; rfl
theorem bytesE_brw : ∀ p : List Int, bytesE (p.map brw) = some (p.map fun n => UInt8.ofNat n.toNat)
  | [] => rfl
  | c :: r => by
    show bytesE (brw c :: r.map brw) = _
    simp only [brw, bytesE, Option.map_eq_some_iff, List.map_cons]
    exact ⟨_, bytesE_brw r, rfl⟩
theorem mlv_noRef (m : M) (n : Nat) : (M.lv m 0 [] 0 []).noRef n = true := msg_noRef n m.tg m.v1 m.v2 m.g1 m.g2 0 m.cs [] m.cn m.fl m.w 0 m.bits [] rfl rfl
theorem carries_law (L : List MQ) (hL : L.length ≤ 4611686018427387904) (hok : ∀ q ∈ L, okQ q) (sp : List (List LV)) (Z : List Int) (hZ : Z.length ≤ 4611686018427387904) (hz : ∀ z ∈ Z, -9223372036854775808 ≤ z ∧ z ≤ 9223372036854775807) (sp2 : List (List LV)) :
    ∃ ob', Gives envC 662 [.sl false 0 10 (L.map rowM) sp, .sl false 0 1 (Z.map zr) sp2] [] 0 (.bool true, ob') := by
  have hLl : (L.map rowM).length = L.length := by simp
  have hZl : (Z.map zr).length = Z.length := by simp
  have g0 := netNew_ok [] 0
  have gr : ∀ ob pb, Gives envC 490 [.agg [.int .u8 4, .int .i64 0, .int .i64 0, .int .i64 0, .int .i64 0, .sl false 0 5 [] [], .int .i64 0, .int .i64 0, .int .i64 0, .sl false 0 1 [] []]] ob pb (.bool true, ob) := fun ob pb =>
    (rightM_ok ⟨4, 0, 0, 0, 0, [], 0, 0, 0, []⟩ 0 [] 0 [] (by decide) (by intro c hc; cases hc) (by decide) ob pb true ⟨fun _ => .inr (.inr (.inr (.inl ⟨rfl, by unfold nameOk; decide, ⟨rfl, rfl⟩, rfl, ⟨by decide, by decide⟩, rfl, rfl, rfl⟩))), fun _ => rfl⟩ (fun _ => rfl) (fun _ => rfl)).le leC
  refine gives_codeE (f := tf662) rfl ?_
  conv => whnf
  refine ⟨_, _, g0, fun h => (nomatch h), ?_⟩
  conv => whnf
  refine ⟨_, _, gr _ _, fun _ => rfl, ?_⟩
  conv => whnf
  refine loop_v (V := fun q : Nat × List (List Int) × Nt => [(7, .sl true 0 1 (q.2.1.map pay) []), (8, .int .i64 q.1)]) (O := fun q => [q.2.2.cells]) (m := fun q => L.length - q.1) (P := fun q => q.1 ≤ L.length ∧ q.2.1.length ≤ q.1 ∧ q.1 ≤ 50 ∧ (∀ p ∈ q.2.1, Good p) ∧ q.2.2.R = dgs q.2.1) ?_ (0, [], Nt.mk 0 0 0 0 []) ⟨Nat.zero_le _, Nat.le_refl _, by omega, fun p hp => (nomatch hp), rfl⟩ rfl
  rintro R ⟨i, P, N⟩ ⟨hi, hPi, hi50, hP, hN0⟩ hN hE hR
  dsimp only at hi hPi hi50 hP hN0
  have e1 : IntKind.i64.wrap ((i : Int) + 1) = ((i + 1 : Nat) : Int) := by rw [wrap64] <;> omega
  have tail : ∀ a b c d e f g h : LV, R (.exit 0) ⟨[.val (.sl false 0 10 (L.map rowM) sp), .val (.sl false 0 1 (Z.map zr) sp2), .val .undef, .val .undef, .val .undef, .val (.optr 0 0), .val .undef, .val (.sl true 0 1 (P.map pay) []), .val (.int .i64 i)] ++ (List.replicate 21 (.val .undef) ++ ([.val a, .val b, .val c, .val d, .val e, .val f, .val g, .val h] ++ List.replicate 144 (.val .undef))), [N.cells], []⟩ := by
    intro a b c d e f g h
    have hpl : (P.map pay).length = P.length := by simp
    have gl := fun pb => netLen_ok N 0 [N.cells] pb rfl
    rw [hN0, dgs_len, ← hpl] at gl
    refine hE _ _ ?_
    conv => whnf
    refine ⟨_, _, gl _, fun _ => rfl, ?_⟩
    conv => whnf
    refine sel_f (by simp) ?_
    conv => whnf
    have hNf : (∀ d ∈ N.R, From P d) ∧ N.R.length ≤ P.length := by rw [hN0]; exact ⟨dgs_from, by rw [dgs_len]; exact Nat.le_refl _⟩
    refine loop_v (V := fun q : Nat × Nt => [(11, .int .i64 q.1)]) (O := fun q => [q.2.cells]) (m := fun q => Z.length - q.1) (P := fun q => q.1 ≤ Z.length ∧ (∀ d ∈ q.2.R, From P d) ∧ q.2.R.length ≤ P.length) ?_ (0, N) ⟨Nat.zero_le _, hNf⟩ rfl
    rintro R2 ⟨j, N2⟩ ⟨hj, hf, hl2⟩ hN2 hE2 hR2
    dsimp only at hj hf hl2
    have gl2 := fun pb => netLen_ok N2 0 [N2.cells] pb rfl
    have e2 : IntKind.i64.wrap ((j : Int) + 1) = ((j + 1 : Nat) : Int) := by rw [wrap64] <;> omega
    have hfin : ∀ n : Nat, n ≤ P.length → decide ((n : Int) ≤ IntKind.i64.wrap (IntKind.i64.wrap (2 * ((P.map pay).length : Int)) + ((Z.map zr).length : Int))) = true := fun n hn => by
      have w1 : IntKind.i64.wrap (2 * ((P.map pay).length : Int)) = 2 * (P.length : Int) := by rw [hpl, wrap64] <;> omega
      have w2 : IntKind.i64.wrap (2 * (P.length : Int) + ((Z.map zr).length : Int)) = 2 * (P.length : Int) + Z.length := by rw [hZl, wrap64] <;> omega
      rw [w1, w2]; exact decide_eq_true (by omega)
    conv => whnf
    refine sel_split (fun h3 => ?_) (fun h3 => ?_)
    · conv => whnf
      refine ⟨_, _, gl2 _, fun _ => rfl, ?_⟩
      conv => whnf
      have h3 : j < Z.length := by have := of_decide_eq_true h3; dsimp only at this; rw [hZl] at this; omega
      obtain ⟨z, hzj⟩ : ∃ z, Z[j]? = some z := ⟨_, List.getElem?_eq_getElem h3⟩
      refine sel_split (fun h4 => ?_) (fun h4 => ?_)
      · have h4 : 0 < N2.R.length := by have := of_decide_eq_true h4; omega
        obtain ⟨k, hk, gw⟩ := netWhich_ok z ((N2.R.length : Nat) : Int) (hz z (List.mem_of_getElem? hzj)) ⟨by omega, by omega⟩
        obtain ⟨d, hd⟩ : ∃ d, N2.R[k]? = some d := ⟨_, List.getElem?_eq_getElem (show k < N2.R.length by omega)⟩
        have hdl : d.p.length ≤ 65536 := by
          obtain ⟨kk, p, hkk, rfl⟩ := hf d (List.mem_of_getElem? hd)
          obtain ⟨m, _, _, h⟩ := hP p (List.mem_of_getElem? hkk)
          exact h
        have gdb := netDouble_ok N2 k d hd hdl (by omega) 0 [N2.cells] 0 (Nat.le_refl _) rfl
        have gdr := netDrop_ok N2 k d hd (by omega) 0 [N2.cells] 0 (Nat.le_refl _) rfl
        have hfd : ∀ x ∈ (N2.twice d).R, From P x := fun x hx => by
          rcases List.mem_append.1 (show x ∈ N2.R ++ [d] from hx) with hx | hx
          · exact hf x hx
          · rw [List.mem_singleton.1 hx]; exact hf d (List.mem_of_getElem? hd)
        have hld : (N2.twice d).R.length ≤ P.length + 1 := by
          show (N2.R ++ [d]).length ≤ _
          rw [List.length_append, List.length_singleton]; omega
        have hfr0 : ∀ x ∈ (({ N2 with c := inc N2.c } : Nt).less k).R, From P x := fun x hx => by
          rcases List.mem_append.1 (show x ∈ N2.R.take k ++ N2.R.drop (k + 1) from hx) with hx | hx
          · exact hf x (List.mem_of_mem_take hx)
          · exact hf x (List.mem_of_mem_drop hx)
        have hlr0 : (({ N2 with c := inc N2.c } : Nt).less k).R.length ≤ P.length + 1 := by
          show (N2.R.take k ++ N2.R.drop (k + 1)).length ≤ _
          rw [List.length_append, List.length_take, List.length_drop]; omega
        change Gives envC 652 _ _ _ (_, [(N2.twice d).cells]) at gdb
        change Gives envC 653 _ _ _ (_, [(({ N2 with c := inc N2.c } : Nt).less k).cells]) at gdr
        generalize N2.twice d = ND at *
        generalize ({ N2 with c := inc N2.c } : Nt).less k = NR at *
        conv => whnf
        refine ⟨_, ⟨by omega, zr_get hzj⟩, ?_⟩
        conv => whnf
        refine ⟨_, _, gl2 _, fun _ => rfl, ?_⟩
        conv => whnf
        refine ⟨_, _, gw _ _, fun _ => rfl, ?_⟩
        conv => whnf
        refine ⟨by decide, ?_⟩
        conv => whnf
        refine sel_split (fun h6 => ?_) (fun h6 => ?_)
        · conv => whnf
          refine ⟨_, _, gdb, fun h => (nomatch h), ?_⟩
          conv => whnf
          refine ⟨_, _, netLen_ok ND 0 [ND.cells] _ rfl, fun _ => rfl, ?_⟩
          conv => whnf
          refine sel_split (fun h5 => ?_) (fun h5 => ?_)
          · conv => whnf
            refine hE2 _ _ ?_
            conv => whnf
            refine ⟨_, _, netLen_ok ND 0 [ND.cells] _ rfl, fun _ => rfl, ?_⟩
            conv => whnf
            exact ⟨rfl, congrArg LV.bool (hfin _ (by have h6 := beq_iff_eq.1 h5; omega))⟩
          · have h5 : 0 < ND.R.length := by have h6 := beq_eq_false_iff_ne.1 h5; omega
            have hl3 : ND.R.length ≤ P.length + 1 := hld
            obtain ⟨k2, hk2, gw2⟩ := netWhich_ok z ((ND.R.length : Nat) : Int) (hz z (List.mem_of_getElem? hzj)) ⟨by omega, by omega⟩
            obtain ⟨d2, hd2⟩ : ∃ d, ND.R[k2]? = some d := ⟨_, List.getElem?_eq_getElem (show k2 < ND.R.length by omega)⟩
            have hfr : ∀ d ∈ ND.R, From P d := hfd
            obtain ⟨kk, p, hkk, hd2e⟩ := hfr d2 (List.mem_of_getElem? hd2)
            obtain ⟨m, hm, hmb, hpl2⟩ := hP p (List.mem_of_getElem? hkk)
            have hkl := (List.getElem?_eq_some_iff.1 hkk).1
            have gd := netDeliver_ok ND k2 d2 hd2 (by omega) 0 [ND.cells] 0 (Nat.le_refl _) rfl
            have hlen4 : (({ ND with b := inc ND.b } : Nt).less k2).R.length ≤ P.length := by
              show (ND.R.take k2 ++ ND.R.drop (k2 + 1)).length ≤ _
              rw [List.length_append, List.length_take, List.length_drop]; omega
            have hf4 : ∀ d ∈ (({ ND with b := inc ND.b } : Nt).less k2).R, From P d := fun d hd => by
              rcases List.mem_append.1 (show d ∈ ND.R.take k2 ++ ND.R.drop (k2 + 1) from hd) with hd | hd
              · exact hfr d (List.mem_of_mem_take hd)
              · exact hfr d (List.mem_of_mem_drop hd)
            obtain ⟨N4, hN4⟩ : ∃ N4, N4 = ({ ND with b := inc ND.b } : Nt).less k2 := ⟨_, rfl⟩
            change Gives envC 654 _ _ _ (.tup [.agg d2.row, .int .i64 0], [(({ ND with b := inc ND.b } : Nt).less k2).cells]) at gd
            rw [← hN4] at gd hlen4 hf4
            rw [hd2e] at gd
            have hpg := pay_get hkk
            have hbe := bytesE_brw p
            obtain ⟨oD, gD⟩ := decode_at m hm (by rw [hmb]; exact hpl2) [N4.cells] 1 (Nat.le_refl _)
            have gD := gD.le leC
            obtain ⟨s1, s2, s3⟩ := rightM_sizes hm
            obtain ⟨oE, gE⟩ := enc_ok m 0 [] 0 [] s1 s2 s3 [N4.cells] 1 (Nat.le_refl _) true ⟨fun _ => hm, fun _ => rfl⟩ (fun _ => rfl) (fun _ => rfl)
            rw [encM_fine (by rw [hmb]; omega), hmb] at gE
            change Gives env11 483 _ _ _ (.tup [.sl false 0 1 (p.map brw) [], .int .i64 0], oE) at gE
            rw [hmb] at gD
            have gE := gE.le leC
            have nD : ∀ n, LV.noRef n (.tup [M.lv m 0 [] 0 [], .int .i64 0, .int .i64 0]) = true := fun n => by
              have := mlv_noRef m n
              show (LV.noRef n (M.lv m 0 [] 0 []) && (true && (true && true))) = true
              rw [this]; rfl
            have nE : ∀ n, LV.noRef n (.tup [.sl false 0 1 (p.map brw) [], .int .i64 0]) = true := fun n => by
              have := noRefB n false p
              show (LV.noRef n (.sl false 0 1 (p.map brw) []) && (true && true)) = true
              rw [show LV.noRef n (.sl false 0 1 (p.map brw) []) = true from this]; rfl
            clear hfr hd2 hd2e
            unfold Dg.row at gd
            dsimp only at gd
            generalize p.map brw = B at *
            conv => whnf
            refine ⟨_, ⟨by omega, zr_get hzj⟩, ?_⟩
            conv => whnf
            refine ⟨_, _, netLen_ok ND 0 [ND.cells] _ rfl, fun _ => rfl, ?_⟩
            conv => whnf
            refine ⟨_, _, gw2 _ _, fun _ => rfl, ?_⟩
            conv => whnf
            refine ⟨_, _, gd, fun h => (nomatch h), ?_⟩
            conv => whnf
            refine sel_f (by rw [hpl]; simp; omega) ?_
            conv => whnf
            refine ⟨(1, B), _, ⟨rfl, rfl, hbe⟩, ?_⟩
            conv => whnf
            refine ⟨_, ⟨by omega, hpg⟩, ?_⟩
            conv => whnf
            refine ⟨(1, B), _, ⟨rfl, rfl, hbe⟩, ?_⟩
            conv => whnf
            refine sel_f (by simp) ?_
            conv => whnf
            refine ⟨_, _, gD, fun _ => nD _, ?_⟩
            conv => whnf
            refine ⟨_, _, gE, fun _ => nE _, ?_⟩
            conv => whnf
            refine ⟨(1, B), _, ⟨rfl, rfl, hbe⟩, ?_⟩
            conv => whnf
            refine ⟨(1, B), _, ⟨rfl, rfl, hbe⟩, ?_⟩
            conv => whnf
            refine sel_f (by simp) ?_
            conv => whnf
            refine hN2 (j + 1, N4) _ ⟨by dsimp only; omega, hf4, hlen4⟩ (by dsimp only; omega) ?_
            rw [← e2]; rfl
        · conv => whnf
          refine sel_split (fun h7 => ?_) (fun h7 => ?_)
          · conv => whnf
            refine ⟨_, _, gdr, fun h => (nomatch h), ?_⟩
            conv => whnf
            refine ⟨_, _, netLen_ok NR 0 [NR.cells] _ rfl, fun _ => rfl, ?_⟩
            conv => whnf
            refine sel_split (fun h5 => ?_) (fun h5 => ?_)
            · conv => whnf
              refine hE2 _ _ ?_
              conv => whnf
              refine ⟨_, _, netLen_ok NR 0 [NR.cells] _ rfl, fun _ => rfl, ?_⟩
              conv => whnf
              exact ⟨rfl, congrArg LV.bool (hfin _ (by have h6 := beq_iff_eq.1 h5; omega))⟩
            · have h5 : 0 < NR.R.length := by have h6 := beq_eq_false_iff_ne.1 h5; omega
              have hl3 : NR.R.length ≤ P.length + 1 := hlr0
              obtain ⟨k2, hk2, gw2⟩ := netWhich_ok z ((NR.R.length : Nat) : Int) (hz z (List.mem_of_getElem? hzj)) ⟨by omega, by omega⟩
              obtain ⟨d2, hd2⟩ : ∃ d, NR.R[k2]? = some d := ⟨_, List.getElem?_eq_getElem (show k2 < NR.R.length by omega)⟩
              have hfr : ∀ d ∈ NR.R, From P d := hfr0
              obtain ⟨kk, p, hkk, hd2e⟩ := hfr d2 (List.mem_of_getElem? hd2)
              obtain ⟨m, hm, hmb, hpl2⟩ := hP p (List.mem_of_getElem? hkk)
              have hkl := (List.getElem?_eq_some_iff.1 hkk).1
              have gd := netDeliver_ok NR k2 d2 hd2 (by omega) 0 [NR.cells] 0 (Nat.le_refl _) rfl
              have hlen4 : (({ NR with b := inc NR.b } : Nt).less k2).R.length ≤ P.length := by
                show (NR.R.take k2 ++ NR.R.drop (k2 + 1)).length ≤ _
                rw [List.length_append, List.length_take, List.length_drop]; omega
              have hf4 : ∀ d ∈ (({ NR with b := inc NR.b } : Nt).less k2).R, From P d := fun d hd => by
                rcases List.mem_append.1 (show d ∈ NR.R.take k2 ++ NR.R.drop (k2 + 1) from hd) with hd | hd
                · exact hfr d (List.mem_of_mem_take hd)
                · exact hfr d (List.mem_of_mem_drop hd)
              obtain ⟨N4, hN4⟩ : ∃ N4, N4 = ({ NR with b := inc NR.b } : Nt).less k2 := ⟨_, rfl⟩
              change Gives envC 654 _ _ _ (.tup [.agg d2.row, .int .i64 0], [(({ NR with b := inc NR.b } : Nt).less k2).cells]) at gd
              rw [← hN4] at gd hlen4 hf4
              rw [hd2e] at gd
              have hpg := pay_get hkk
              have hbe := bytesE_brw p
              obtain ⟨oD, gD⟩ := decode_at m hm (by rw [hmb]; exact hpl2) [N4.cells] 1 (Nat.le_refl _)
              have gD := gD.le leC
              obtain ⟨s1, s2, s3⟩ := rightM_sizes hm
              obtain ⟨oE, gE⟩ := enc_ok m 0 [] 0 [] s1 s2 s3 [N4.cells] 1 (Nat.le_refl _) true ⟨fun _ => hm, fun _ => rfl⟩ (fun _ => rfl) (fun _ => rfl)
              rw [encM_fine (by rw [hmb]; omega), hmb] at gE
              change Gives env11 483 _ _ _ (.tup [.sl false 0 1 (p.map brw) [], .int .i64 0], oE) at gE
              rw [hmb] at gD
              have gE := gE.le leC
              have nD : ∀ n, LV.noRef n (.tup [M.lv m 0 [] 0 [], .int .i64 0, .int .i64 0]) = true := fun n => by
                have := mlv_noRef m n
                show (LV.noRef n (M.lv m 0 [] 0 []) && (true && (true && true))) = true
                rw [this]; rfl
              have nE : ∀ n, LV.noRef n (.tup [.sl false 0 1 (p.map brw) [], .int .i64 0]) = true := fun n => by
                have := noRefB n false p
                show (LV.noRef n (.sl false 0 1 (p.map brw) []) && (true && true)) = true
                rw [show LV.noRef n (.sl false 0 1 (p.map brw) []) = true from this]; rfl
              clear hfr hd2 hd2e
              unfold Dg.row at gd
              dsimp only at gd
              generalize p.map brw = B at *
              conv => whnf
              refine ⟨_, ⟨by omega, zr_get hzj⟩, ?_⟩
              conv => whnf
              refine ⟨_, _, netLen_ok NR 0 [NR.cells] _ rfl, fun _ => rfl, ?_⟩
              conv => whnf
              refine ⟨_, _, gw2 _ _, fun _ => rfl, ?_⟩
              conv => whnf
              refine ⟨_, _, gd, fun h => (nomatch h), ?_⟩
              conv => whnf
              refine sel_f (by rw [hpl]; simp; omega) ?_
              conv => whnf
              refine ⟨(1, B), _, ⟨rfl, rfl, hbe⟩, ?_⟩
              conv => whnf
              refine ⟨_, ⟨by omega, hpg⟩, ?_⟩
              conv => whnf
              refine ⟨(1, B), _, ⟨rfl, rfl, hbe⟩, ?_⟩
              conv => whnf
              refine sel_f (by simp) ?_
              conv => whnf
              refine ⟨_, _, gD, fun _ => nD _, ?_⟩
              conv => whnf
              refine ⟨_, _, gE, fun _ => nE _, ?_⟩
              conv => whnf
              refine ⟨(1, B), _, ⟨rfl, rfl, hbe⟩, ?_⟩
              conv => whnf
              refine ⟨(1, B), _, ⟨rfl, rfl, hbe⟩, ?_⟩
              conv => whnf
              refine sel_f (by simp) ?_
              conv => whnf
              refine hN2 (j + 1, N4) _ ⟨by dsimp only; omega, hf4, hlen4⟩ (by dsimp only; omega) ?_
              rw [← e2]; rfl
          · conv => whnf
            refine ⟨_, _, netLen_ok N2 0 [N2.cells] _ rfl, fun _ => rfl, ?_⟩
            conv => whnf
            refine sel_split (fun h5 => ?_) (fun h5 => ?_)
            · conv => whnf
              refine hE2 _ _ ?_
              conv => whnf
              refine ⟨_, _, netLen_ok N2 0 [N2.cells] _ rfl, fun _ => rfl, ?_⟩
              conv => whnf
              exact ⟨rfl, congrArg LV.bool (hfin _ (by have h6 := beq_iff_eq.1 h5; omega))⟩
            · have h5 : 0 < N2.R.length := by have h6 := beq_eq_false_iff_ne.1 h5; omega
              have hl3 : N2.R.length ≤ P.length + 1 := (by omega)
              obtain ⟨k2, hk2, gw2⟩ := netWhich_ok z ((N2.R.length : Nat) : Int) (hz z (List.mem_of_getElem? hzj)) ⟨by omega, by omega⟩
              obtain ⟨d2, hd2⟩ : ∃ d, N2.R[k2]? = some d := ⟨_, List.getElem?_eq_getElem (show k2 < N2.R.length by omega)⟩
              have hfr : ∀ d ∈ N2.R, From P d := hf
              obtain ⟨kk, p, hkk, hd2e⟩ := hfr d2 (List.mem_of_getElem? hd2)
              obtain ⟨m, hm, hmb, hpl2⟩ := hP p (List.mem_of_getElem? hkk)
              have hkl := (List.getElem?_eq_some_iff.1 hkk).1
              have gd := netDeliver_ok N2 k2 d2 hd2 (by omega) 0 [N2.cells] 0 (Nat.le_refl _) rfl
              have hlen4 : (({ N2 with b := inc N2.b } : Nt).less k2).R.length ≤ P.length := by
                show (N2.R.take k2 ++ N2.R.drop (k2 + 1)).length ≤ _
                rw [List.length_append, List.length_take, List.length_drop]; omega
              have hf4 : ∀ d ∈ (({ N2 with b := inc N2.b } : Nt).less k2).R, From P d := fun d hd => by
                rcases List.mem_append.1 (show d ∈ N2.R.take k2 ++ N2.R.drop (k2 + 1) from hd) with hd | hd
                · exact hfr d (List.mem_of_mem_take hd)
                · exact hfr d (List.mem_of_mem_drop hd)
              obtain ⟨N4, hN4⟩ : ∃ N4, N4 = ({ N2 with b := inc N2.b } : Nt).less k2 := ⟨_, rfl⟩
              change Gives envC 654 _ _ _ (.tup [.agg d2.row, .int .i64 0], [(({ N2 with b := inc N2.b } : Nt).less k2).cells]) at gd
              rw [← hN4] at gd hlen4 hf4
              rw [hd2e] at gd
              have hpg := pay_get hkk
              have hbe := bytesE_brw p
              obtain ⟨oD, gD⟩ := decode_at m hm (by rw [hmb]; exact hpl2) [N4.cells] 1 (Nat.le_refl _)
              have gD := gD.le leC
              obtain ⟨s1, s2, s3⟩ := rightM_sizes hm
              obtain ⟨oE, gE⟩ := enc_ok m 0 [] 0 [] s1 s2 s3 [N4.cells] 1 (Nat.le_refl _) true ⟨fun _ => hm, fun _ => rfl⟩ (fun _ => rfl) (fun _ => rfl)
              rw [encM_fine (by rw [hmb]; omega), hmb] at gE
              change Gives env11 483 _ _ _ (.tup [.sl false 0 1 (p.map brw) [], .int .i64 0], oE) at gE
              rw [hmb] at gD
              have gE := gE.le leC
              have nD : ∀ n, LV.noRef n (.tup [M.lv m 0 [] 0 [], .int .i64 0, .int .i64 0]) = true := fun n => by
                have := mlv_noRef m n
                show (LV.noRef n (M.lv m 0 [] 0 []) && (true && (true && true))) = true
                rw [this]; rfl
              have nE : ∀ n, LV.noRef n (.tup [.sl false 0 1 (p.map brw) [], .int .i64 0]) = true := fun n => by
                have := noRefB n false p
                show (LV.noRef n (.sl false 0 1 (p.map brw) []) && (true && true)) = true
                rw [show LV.noRef n (.sl false 0 1 (p.map brw) []) = true from this]; rfl
              clear hfr hd2 hd2e
              unfold Dg.row at gd
              dsimp only at gd
              generalize p.map brw = B at *
              conv => whnf
              refine ⟨_, ⟨by omega, zr_get hzj⟩, ?_⟩
              conv => whnf
              refine ⟨_, _, netLen_ok N2 0 [N2.cells] _ rfl, fun _ => rfl, ?_⟩
              conv => whnf
              refine ⟨_, _, gw2 _ _, fun _ => rfl, ?_⟩
              conv => whnf
              refine ⟨_, _, gd, fun h => (nomatch h), ?_⟩
              conv => whnf
              refine sel_f (by rw [hpl]; simp; omega) ?_
              conv => whnf
              refine ⟨(1, B), _, ⟨rfl, rfl, hbe⟩, ?_⟩
              conv => whnf
              refine ⟨_, ⟨by omega, hpg⟩, ?_⟩
              conv => whnf
              refine ⟨(1, B), _, ⟨rfl, rfl, hbe⟩, ?_⟩
              conv => whnf
              refine sel_f (by simp) ?_
              conv => whnf
              refine ⟨_, _, gD, fun _ => nD _, ?_⟩
              conv => whnf
              refine ⟨_, _, gE, fun _ => nE _, ?_⟩
              conv => whnf
              refine ⟨(1, B), _, ⟨rfl, rfl, hbe⟩, ?_⟩
              conv => whnf
              refine ⟨(1, B), _, ⟨rfl, rfl, hbe⟩, ?_⟩
              conv => whnf
              refine sel_f (by simp) ?_
              conv => whnf
              refine hN2 (j + 1, N4) _ ⟨by dsimp only; omega, hf4, hlen4⟩ (by dsimp only; omega) ?_
              rw [← e2]; rfl
      · conv => whnf
        refine hE2 _ _ ?_
        conv => whnf
        refine ⟨_, _, gl2 _, fun _ => rfl, ?_⟩
        conv => whnf
        exact ⟨rfl, congrArg LV.bool (hfin _ hl2)⟩
    · conv => whnf
      refine hE2 _ _ ?_
      conv => whnf
      refine ⟨_, _, gl2 _, fun _ => rfl, ?_⟩
      conv => whnf
      exact ⟨rfl, congrArg LV.bool (hfin _ hl2)⟩
  conv => whnf
  refine sel_split (fun h => ?_) (fun h => ?_)
  · conv => whnf
    have h := of_decide_eq_true h
    rw [hLl] at h
    refine sel_split (fun h2 => ?_) (fun h2 => ?_)
    · conv => whnf
      have h2 := of_decide_eq_true h2
      obtain ⟨q, hq⟩ : ∃ q, L[i]? = some q := ⟨_, List.getElem?_eq_getElem (show i < L.length by omega)⟩
      have hqo := hok q (List.mem_of_getElem? hq)
      obtain ⟨b, e, he, hg, hnr, ge, hbl⟩ := enc_at q hqo
      obtain ⟨obE, ge⟩ := ge [N.cells] 1 (Nat.le_refl _)
      have hrow := rowM_get hq
      have hbr : ∀ n, LV.noRef n (.tup [.sl false 0 1 (b.map brw) [], .int .i64 e]) = true := fun n => by
        have := noRefB n false b
        simp only [LV.noRef, LV.noRefs, Bool.and_true]
        simpa [LV.noRef] using this
      unfold rowM at hrow ge
      refine ⟨_, ⟨by omega, hrow⟩, ?_⟩
      conv => whnf
      refine ⟨_, _, ge, fun _ => hbr _, ?_⟩
      have hpl : (P.map pay).length = P.length := by simp
      have gs := netSend_ok N ((P.map pay).length : Int) (by omega) b hbl (by rw [hN0, dgs_len]; omega) false 0 [N.cells] 0 (Nat.le_refl _) rfl
      have hmp : (P ++ [b]).map pay = P.map pay ++ [[.sl false 0 1 (b.map brw) []]] := by simp [pay]
      obtain ⟨r, hr⟩ : ∃ r : Bool, r = true ↔ RightM q.1 := by
        by_cases hq : RightM q.1
        · exact ⟨true, fun _ => hq, fun _ => rfl⟩
        · exact ⟨false, fun h => (nomatch h), fun h => absurd h hq⟩
      have gR := fun ob pb => (rightM_ok q.1 0 q.2.1 0 q.2.2 (by have := hqo.1; omega) hqo.2.1 (by have := hqo.2.2.1; omega) ob pb r hr hqo.2.2.2.1 hqo.2.2.2.2).le leC
      rcases he with rfl | rfl | rfl
      · have hgb := hg rfl
        unfold Dg.row at gs
        dsimp only at gs
        conv => whnf
        refine ⟨_, _, gs, fun h => (nomatch h), ?_⟩
        conv => whnf
        refine ⟨_, ⟨.inl rfl, by rw [hpl]; show (_ + 1) * 24 ≤ _; omega, hmp⟩, ?_⟩
        conv => whnf
        refine hN (i + 1, P ++ [b], N.sent ⟨0, 1, false, ((P.map pay).length : Int), b⟩) _ ⟨by dsimp only; omega, by dsimp only; rw [List.length_append, List.length_singleton]; omega, by dsimp only; omega, fun p hp => ?_, ?_⟩ (by dsimp only; omega) ?_
        · rcases List.mem_append.1 hp with hp | hp
          · exact hP p hp
          · rw [List.mem_singleton.1 hp]; exact hgb
        · show N.R ++ _ = _
          rw [hN0, hpl, dgs_snoc]
        · rw [← e1]; rfl
      · conv => whnf
        refine ⟨_, ⟨by omega, hrow⟩, ?_⟩
        conv => whnf
        refine ⟨_, _, gR _ _, fun _ => rfl, ?_⟩
        cases r with
        | true =>
          conv => whnf
          refine hN (i + 1, P, N) _ ⟨by dsimp only; omega, by dsimp only; omega, by dsimp only; omega, hP, hN0⟩ (by dsimp only; omega) ?_
          rw [← e1]; rfl
        | false =>
          conv => whnf
          refine hN (i + 1, P, N) _ ⟨by dsimp only; omega, by dsimp only; omega, by dsimp only; omega, hP, hN0⟩ (by dsimp only; omega) ?_
          rw [← e1]; rfl
      · have hrf : r = false := by
          cases r with
          | true => exact absurd (hr.1 rfl) (hnr rfl)
          | false => rfl
        rw [hrf] at gR
        conv => whnf
        refine ⟨_, ⟨by omega, hrow⟩, ?_⟩
        conv => whnf
        refine ⟨_, _, gR _ _, fun _ => rfl, ?_⟩
        conv => whnf
        refine hN (i + 1, P, N) _ ⟨by dsimp only; omega, by dsimp only; omega, by dsimp only; omega, hP, hN0⟩ (by dsimp only; omega) ?_
        rw [← e1]; rfl
    · conv => whnf
      exact tail _ _ _ _ _ _ _ _
  · conv => whnf
    exact tail _ _ _ _ _ _ _ _
end Tree.C12
