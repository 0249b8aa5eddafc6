/- purlinlaw06.ArithValues: what E answers. -/
import Derived.Test.YtmhblapchnldhaaDoorL6H8
import Derived.Test.YtmhblapchnldhaaDoorTLg
set_option autoImplicit false
set_option linter.unusedVariables false
set_option linter.unusedSimpArgs false
namespace Tree.H6
open Go
set_option maxHeartbeats 8000000
set_option maxRecDepth 100000
theorem hand6 : HandE env6 := handE_of (E0 := env6r) rfl rfl
theorem sameNames6 (us : List NV) (l1 l2 : Nat) (s1 s2 : List (List LV)) (hl : us.length ≤ 4294967296) (ob : Obs) (pb : Nat) : Gives env6 162 [sl2 false l1 us s1, sl2 false l2 us s2] ob pb (.bool true, ob) := by
  have hlen : (us.map nrow).length = us.length := by simp
  refine gives_code (f := tf162) rfl ?_
  conv => whnf
  refine sel_f (by simp) ?_
  conv => whnf
  refine loop_v (V := fun i : Nat => [(5, .int .i64 i)]) (O := fun _ => ob) (m := fun i => us.length - i) (P := fun i => i ≤ us.length) ?_ 0 (Nat.zero_le _) rfl
  intro R i hi hN hE hR
  conv => whnf
  refine sel_split (fun h => ?_) (fun h => ?_)
  · conv => whnf
    have h := of_decide_eq_true h
    rw [hlen] at h
    obtain ⟨v, hv⟩ : ∃ v, us[i]? = some v := ⟨_, List.getElem?_eq_getElem (show i < us.length by omega)⟩
    have e : IntKind.i64.wrap ((i : Int) + 1) = ((i + 1 : Nat) : Int) := by rw [wrap64] <;> omega
    refine ⟨_, ⟨by omega, idx_nv hv⟩, ?_⟩
    conv => whnf
    refine ⟨_, ⟨by omega, idx_nv hv⟩, ?_⟩
    conv => whnf
    refine sel_f (by simp) ?_
    conv => whnf
    refine hN (i + 1) _ (by omega) (by omega) ?_
    rw [← e]; rfl
  · conv => whnf
    refine hE _ _ ?_
    conv => whnf
    exact ⟨rfl, rfl, rfl⟩
theorem rz_noRef (x : Rz) (n : Nat) : (Rz.out x).noRef n = true := by
  simp only [Rz.out, LV.noRef, LV.noRefs, noRefss_n, LV.noRefss, Bool.and_self]
section
variable {ob : Obs} {M : Mp} (hM : MOk M) {p q : LV} (hp : isPtr p) (hv : ∀ (k : NV) (pb : Nat), Gives env6 253 [p, nm k.1 k.2] ob pb (.tup [nv (M k), .bool (M k).isSome], ob)) (hq : isPtr q) (hu : ∀ (k : NV) (pb : Nat), Gives env6 268 [q, nm k.1 k.2] ob pb (.tup [nv (M k), .bool (M k).isSome], ob)) (hch : ∀ cs, ∃ l, Ch M cs l ∧ l.length ≤ 4294967296)
include hM hp hv hq hu hch
theorem values_ok (cs : List C) (hl : cs.length ≤ 1048576) (hf : ∀ c ∈ cs, c.fine) : ∃ x : Rz, x.2.2.length ≤ 1048576 ∧ (∀ (lab : Nat) (sp : List (List LV)), spOk sp → ∀ pb, Gives env6 217 [p, sl5 false lab cs sp] ob pb (Rz.out x, ob)) ∧ (∀ (lab : Nat) (sp : List (List LV)), spOk sp → ∀ pb, Gives env6 218 [q, sl5 false lab cs sp] ob pb (Rz.out x, ob)) := by
  obtain ⟨r, hr⟩ := boolOf (RightP cs)
  have g1 := fun lab sp ob pb => (right_ok lab cs sp (by omega) hf ob pb r hr).le le16
  have g2 := fun lab sp ob pb => (refRight_ok lab cs sp (by omega) hf ob pb r hr).le le16
  cases r with
  | false =>
    refine ⟨(0, true, []), Nat.zero_le _, fun lab sp hs pb => ?_, fun lab sp hs pb => ?_⟩
    · rcases hp with rfl | ⟨id, rfl⟩
      all_goals
        refine gives_code (f := tf217) rfl ?_
        conv => whnf
        refine ⟨_, _, g1 lab sp _ _, fun _ => rfl, ?_⟩
        conv => whnf
        exact ⟨rfl, rfl, rfl⟩
    · rcases hq with rfl | ⟨id, rfl⟩
      all_goals
        refine gives_code (f := tf218) rfl ?_
        conv => whnf
        refine ⟨_, _, g2 lab sp _ _, fun _ => rfl, ?_⟩
        conv => whnf
        exact ⟨rfl, rfl, rfl⟩
  | true =>
    obtain ⟨x, hx, gP, gR⟩ := sums_ok hM hp hv hq hu hch cs.length cs (Nat.le_refl _) (hr.1 rfl) hf
    refine ⟨x, by omega, fun lab sp hs pb => ?_, fun lab sp hs pb => ?_⟩
    · have gP := gP lab sp hs
      obtain ⟨n, f, w⟩ := x
      have hn : ∀ k, (Rz.lv (n, f, w)).noRef k = true := fun k => by simp only [Rz.lv, sumL, LV.noRef, LV.noRefs, noRefss_n, LV.noRefss, Bool.and_self]
      clear hv hu hch gR
      rcases hp with rfl | ⟨id, rfl⟩
      all_goals
        refine gives_code (f := tf217) rfl ?_
        conv => whnf
        refine ⟨_, _, g1 lab sp _ _, fun _ => rfl, ?_⟩
        conv => whnf
        refine ⟨_, _, gP _, fun _ => hn _, ?_⟩
        conv => whnf
        refine ⟨_, _, outcome_ok n f false w ob _, fun _ => rfl, ?_⟩
        cases f with
        | true =>
          conv => whnf
          exact ⟨rfl, rfl, rfl⟩
        | false =>
          cases w with
          | nil =>
            conv => whnf
            exact ⟨rfl, rfl, rfl⟩
          | cons v w =>
            conv => whnf
            exact ⟨rfl, rfl, rfl⟩
    · have gR := gR lab sp hs
      have hn := rz_noRef x
      unfold Rz.out at gR hn ⊢
      generalize outZ x.2.1 x.2.2 = z at gR hn ⊢
      generalize nz x = n at gR hn ⊢
      generalize uz x = u at gR hn ⊢
      clear hv hu hch gP
      rcases hq with rfl | ⟨id, rfl⟩
      all_goals
        refine gives_code (f := tf218) rfl ?_
        conv => whnf
        refine ⟨_, _, g2 lab sp _ _, fun _ => rfl, ?_⟩
        conv => whnf
        refine ⟨_, _, gR _, fun _ => hn _, ?_⟩
        conv => whnf
        exact ⟨rfl, rfl, rfl⟩
end
theorem ch_none (cs : List C) : Ch (fun _ => none) cs [] := .stop (by
  match cs with
  | [] => rfl
  | [c] => simp [nxt]
  | _ :: _ :: _ => rfl)
theorem ch_map {x : Mx} {n : Nat} (hx : x.Ok n) (hn : n ≤ 1048576) (cs : List C) : ∃ l, Ch x.M cs l ∧ l.length ≤ 4294967296 := by
  have hK : ∀ k, (x.M k).isSome = true → k ∈ x.L.map (·.1) := by
    intro k hk
    rw [← hx.hr] at hk
    generalize x.L = L at hk ⊢
    induction L with
    | nil => cases hk
    | cons e r ih =>
      simp only [List.map_cons, List.mem_cons]
      by_cases h : e.1 = k
      · exact .inl h.symm
      · simp only [lkB, if_neg h] at hk; exact .inr (ih hk)
  have hmz : mz (x.L.map (·.1)) cs ≤ x.L.length + 1 := by
    have h1 : ∀ v, rk (x.L.map (·.1)) v ≤ x.L.length := fun v => by
      have := List.countP_le_length (p := fun y => decide (¬ lessN v y)) (l := x.L.map (·.1))
      rw [List.length_map] at this; exact this
    unfold mz
    split
    · rename_i d
      split
      · have := h1 (d.node, d.num); omega
      · omega
    · omega
  obtain ⟨l, h1, h2⟩ := ch_ex hx.mok hK _ cs (Nat.le_refl _)
  have := hx.hn
  exact ⟨l, h1, by omega⟩
theorem values_law (bs : List Bn) (lb : Nat) (bsp : List (List LV)) (hb : bs.length ≤ 1048576) (hbf : ∀ b ∈ bs, b.fine) (cs : List C) (sp : List (List LV)) (hl : cs.length ≤ 1048576) (hf : ∀ c ∈ cs, c.fine) (hs : spOk sp) : ∃ ob', Gives env6 577 [.sl false lb 3 (bs.map Bn.row) bsp, sl5 false 0 cs sp] [] 0 (.bool true, ob') := by
  obtain ⟨y, hy, gM⟩ := maps_ok lb bs bsp hb hbf
  have hp := hy.p
  have hr := hy.r
  have hyn := hy.hn
  have hPP : PtrP (obM y.c y.es y.L) (.optr 1 0) y.M := .inr ⟨1, 0, _, _, rfl, hp⟩
  have hPR : PtrR (obM y.c y.es y.L) (.optr 2 0) y.M := .inr ⟨2, _, rfl, hr, by omega⟩
  have hNP : PtrP (obM y.c y.es y.L) .nilptr (fun _ => none) := .inl ⟨rfl, fun _ => rfl⟩
  have hNR : PtrR (obM y.c y.es y.L) .nilptr (fun _ => none) := .inl ⟨rfl, fun _ => rfl⟩
  obtain ⟨x1, w1, a1, b1⟩ := values_ok hy.mok hPP.ptr (fun k pb => value_ok hPP k pb) hPR.ptr (fun k pb => valueR_ok hPR k pb) (ch_map hy hb) cs hl hf
  obtain ⟨x2, w2, a2, b2⟩ := values_ok mok_nil hNP.ptr (fun k pb => value_ok hNP k pb) hNR.ptr (fun k pb => valueR_ok hNR k pb) (fun cs => ⟨[], ch_none cs, Nat.zero_le _⟩) cs hl hf
  have hm : spOk marksR := marksR_noRef
  have gH : ∀ ob pb, Gives env6 216 [sl5 false 0 cs sp] ob pb (sl5 false 0 cs marksR, ob) := fun ob pb => handT_ok rfl hand6 cs 0 sp hl (hs 0) ob pb
  have gK : ∀ ob pb, Gives env6 220 [sl5 false 0 cs marksR, sl5 false 0 cs sp] ob pb (.bool true, ob) := fun ob pb => keptT_ok rfl rfl rfl cs hl 0 sp ob pb
  have a1 := a1 0 marksR hm
  have b1 := b1 0 sp hs
  have a2 := a2 0 marksR hm
  have b2 := b2 0 sp hs
  have n1 := rz_noRef x1
  have n2 := rz_noRef x2
  have u1 := uz_len x1
  have u2 := uz_len x2
  unfold Rz.out at a1 b1 a2 b2 n1 n2
  generalize outZ x1.2.1 x1.2.2 = z1 at a1 b1 n1
  generalize outZ x2.2.1 x2.2.2 = z2 at a2 b2 n2
  generalize nz x1 = m1 at a1 b1 n1
  generalize nz x2 = m2 at a2 b2 n2
  generalize uz x1 = v1 at a1 b1 n1 u1
  generalize uz x2 = v2 at a2 b2 n2 u2
  have gS1 := fun ob pb => sameNames6 v1 0 0 [] [] (by omega) ob pb
  have gS2 := fun ob pb => sameNames6 v2 0 0 [] [] (by omega) ob pb
  refine ⟨obM y.c y.es y.L, ?_⟩
  refine gives_code (f := tf577) rfl ?_
  conv => whnf
  refine ⟨_, _, gM, fun e => (nomatch e), ?_⟩
  conv => whnf
  refine ⟨_, _, gH _ _, fun e => (nomatch e), ?_⟩
  conv => whnf
  refine ⟨_, _, a1 _, fun _ => n1 _, ?_⟩
  conv => whnf
  refine ⟨_, _, b1 _, fun _ => n1 _, ?_⟩
  conv => whnf
  refine ⟨_, _, a2 _, fun _ => n2 _, ?_⟩
  conv => whnf
  refine ⟨_, _, b2 _, fun _ => n2 _, ?_⟩
  conv => whnf
  refine ⟨_, _, live6_ok _ _, fun _ => rfl, ?_⟩
  conv => whnf
  repeat' first
    | (refine sel_t (by simp) ?_; conv => whnf)
    | (refine ⟨_, _, gS1 _ _, fun _ => rfl, ?_⟩; conv => whnf)
    | (refine ⟨_, _, gS2 _ _, fun _ => rfl, ?_⟩; conv => whnf)
    | (refine ⟨_, _, gK _ _, fun _ => rfl, ?_⟩; conv => whnf)
    | exact ⟨rfl, rfl, rfl⟩
end Tree.H6
