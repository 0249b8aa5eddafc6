/- Layer 10: the law QueueOrder, what E answers. -/
import Derived.Test.YtjbdicceeocgeaaL10Q3
set_option autoImplicit false
set_option linter.unusedVariables false
set_option linter.unusedSimpArgs false
namespace Tree.Q10
open Go
set_option maxHeartbeats 8000000
set_option maxRecDepth 100000
def wq (v : NV) (g : Gl) : Wt := ⟨g.own, dedupN [v, v]⟩
theorem dedup2 (v : NV) : dedupN [v, v] = [v] := by simp [dedupN, addN]
theorem hit_wq (v : NV) (g : Gl) : hits [v] (wq v g) = true := by
  rw [hits_iff]; exact ⟨v, by rw [show (wq v g).vs = dedupN [v, v] from rfl, dedup2]; simp, by simp⟩
theorem wok_wq (v : NV) (gs : List Gl) : wok [v] (gs.map (wq v)) = gs.map Gl.own := by
  unfold wok
  rw [List.filter_eq_self.2 (fun w hw => by obtain ⟨g, _, rfl⟩ := List.mem_map.1 hw; exact hit_wq v g), List.map_map]; rfl
theorem lft_wq (v : NV) (gs : List Gl) : lft [v] (gs.map (wq v)) = [] := by
  unfold lft
  rw [List.filter_eq_nil_iff]
  intro w hw
  obtain ⟨g, _, rfl⟩ := List.mem_map.1 hw
  simp [hit_wq]
theorem own_small {gs : List Gl} (h : ∀ g ∈ gs, g.small) : ∀ g ∈ gs.map Gl.own, g.small := fun g hg => by
  obtain ⟨k, hk, rfl⟩ := List.mem_map.1 hg; exact h k hk
theorem own_own (gs : List Gl) : (gs.map Gl.own).map Gl.own = gs.map Gl.own := by rw [List.map_map]; rfl
theorem own_key (gs : List Gl) : (gs.map Gl.own).map Gl.key = gs.map Gl.key := by rw [List.map_map]; rfl
theorem order_ok (gs : List Gl) (sp : List (List LV)) (v : NV) (hl : gs.length ≤ 1048576) (hg : ∀ g ∈ gs, g.small) : ∃ ob, Gives env10 586 [slG false 0 gs sp, nm v.1 v.2] [] 0 (.bool true, ob) := by
  have hlen : (gs.map Gl.row).length = gs.length := by simp
  refine ⟨[qC ((gs.map Gl.own).drop gs.length) [], qC ((gs.map Gl.own).drop gs.length) []], ?_⟩
  refine gives_code (f := tf586) rfl ?_
  conv => whnf
  refine ⟨_, _, live10_ok _ _, fun _ => rfl, ?_⟩
  conv => whnf
  refine ⟨_, _, new_ok _ _, (fun h => nomatch h), ?_⟩
  conv => whnf
  refine ⟨_, _, new_ok _ _, (fun h => nomatch h), ?_⟩
  conv => whnf
  refine loop_v (V := fun i : Nat => [(7, .int .i64 i)]) (O := fun i => [qC ((gs.take i).map Gl.own) [], qC [] ((gs.take i).map (wq v))]) (m := fun i => gs.length - i) (P := fun i => i ≤ gs.length) ?_ 0 (Nat.zero_le _) rfl
  intro R i hi hN hE hR
  conv => whnf
  refine sel_split (fun h => ?_) (fun h => ?_)
  · conv => whnf
    have h := of_decide_eq_true h
    rw [hlen] at h
    obtain ⟨g, hq⟩ : ∃ g, gs[i]? = some g := ⟨_, List.getElem?_eq_getElem (show i < gs.length by omega)⟩
    have e : IntKind.i64.wrap ((i : Int) + 1) = ((i + 1 : Nat) : Int) := by rw [wrap64] <;> omega
    have hgs := hg g (List.mem_of_getElem? hq)
    refine ⟨_, ⟨by omega, idx_g hq⟩, ?_⟩
    conv => whnf
    refine ⟨_, _, put_ok (rd := (gs.take i).map Gl.own) (wt := []) rfl (Nat.zero_le _) 0 [g] [] (by simp only [List.length_map, List.length_take, List.length_cons, List.length_nil]; omega) (by simpa using hgs), (fun h => nomatch h), ?_⟩
    conv => whnf
    refine ⟨_, ⟨by omega, idx_g hq⟩, ?_⟩
    conv => whnf
    refine ⟨_, _, wait_ok (rd := []) (wt := (gs.take i).map (wq v)) rfl (Nat.zero_le _) g hgs 0 [v, v] [] (by simp) (by simp only [List.length_map, List.length_take]; omega) (by simp), (fun h => nomatch h), ?_⟩
    conv => whnf
    refine hN (i + 1) _ (by omega) (by omega) ?_
    rw [← e]
    have e1 : (gs.take (i + 1)).map Gl.own = (gs.take i).map Gl.own ++ [g].map Gl.own := by rw [List.take_add_one, hq, List.map_append]; rfl
    have e2 : (gs.take (i + 1)).map (wq v) = (gs.take i).map (wq v) ++ [⟨g.own, dedupN [v, v]⟩] := by rw [List.take_add_one, hq, List.map_append]; rfl
    rw [e1, e2]; rfl
  · conv => whnf
    have h := of_decide_eq_false h
    rw [hlen] at h
    have : i = gs.length := by omega
    subst this
    refine hE _ _ ?_
    rw [List.take_length]
    conv => whnf
    have hw := wake_ok (ob := [qC (gs.map Gl.own) [], qC [] (gs.map (wq v))]) (id := 1) (pb := 0) (rd := []) (wt := gs.map (wq v)) rfl (Nat.zero_le _) 0 [v] [] (by simp only [List.length_map, List.length_nil]; omega) (by simp) (fun w hw => by
      obtain ⟨g, hg', rfl⟩ := List.mem_map.1 hw
      exact ⟨hg g hg', by rw [show (wq v g).vs = dedupN [v, v] from rfl, dedup2]; simp⟩)
    rw [wok_wq, lft_wq, own_own, List.nil_append] at hw
    refine ⟨_, _, hw, (fun h => nomatch h), ?_⟩
    conv => whnf
    refine ⟨_, _, sameGoals_ok 0 0 (gs.map Gl.own) gs [] sp (own_small hg) (by rw [List.length_map]; omega) (own_key gs) _ _, fun _ => rfl, ?_⟩
    conv => whnf
    have hr := ready_ok (ob := [qC (gs.map Gl.own) [], qC (gs.map Gl.own) []]) (id := 1) (rd := gs.map Gl.own) (wt := []) rfl 2 (by rw [List.length_map]; omega) (own_small hg)
    rw [own_own] at hr
    refine ⟨_, _, hr, fun _ => ownG_noRef _ _ _, ?_⟩
    conv => whnf
    refine ⟨_, _, sameGoals_ok 0 0 (gs.map Gl.own) gs [] sp (own_small hg) (by rw [List.length_map]; omega) (own_key gs) _ _, fun _ => rfl, ?_⟩
    conv => whnf
    refine loop_v (V := fun i : Nat => [(8, .int .i64 i)]) (O := fun i => [qC ((gs.map Gl.own).drop i) [], qC ((gs.map Gl.own).drop i) []]) (m := fun i => gs.length - i) (P := fun i => i ≤ gs.length) ?_ 0 (Nat.zero_le _) rfl
    intro R2 i hi hN2 hE2 hR2
    conv => whnf
    refine sel_split (fun h => ?_) (fun h => ?_)
    · conv => whnf
      have h := of_decide_eq_true h
      rw [hlen] at h
      obtain ⟨g, hq⟩ : ∃ g, gs[i]? = some g := ⟨_, List.getElem?_eq_getElem (show i < gs.length by omega)⟩
      have e : IntKind.i64.wrap ((i : Int) + 1) = ((i + 1 : Nat) : Int) := by rw [wrap64] <;> omega
      have hgs := hg g (List.mem_of_getElem? hq)
      have hd : (gs.map Gl.own).drop i = g.own :: (gs.map Gl.own).drop (i + 1) := by
        rw [List.drop_eq_getElem_cons (by rw [List.length_map]; omega)]
        congr 1
        have := List.getElem?_eq_some_iff.1 hq
        rw [List.getElem_map, this.2]
      have hdl : ((gs.map Gl.own).drop (i + 1)).length ≤ 4294967296 := by rw [List.length_drop, List.length_map]; omega
      refine ⟨_, _, next_some (rd := (gs.map Gl.own).drop i) (wt := []) rfl (Nat.zero_le _) g.own _ hd hgs hdl, (fun h => nomatch h), ?_⟩
      conv => whnf
      refine ⟨_, _, next_some (rd := (gs.map Gl.own).drop i) (wt := []) rfl (Nat.zero_le _) g.own _ hd hgs hdl, (fun h => nomatch h), ?_⟩
      conv => whnf
      refine ⟨_, ⟨by omega, idx_g hq⟩, ?_⟩
      conv => whnf
      refine ⟨_, _, sameGoal_ok g.own g hgs _ _ true (by simp [Gl.key, Gl.own]), fun _ => rfl, ?_⟩
      conv => whnf
      refine ⟨_, ⟨by omega, idx_g hq⟩, ?_⟩
      conv => whnf
      refine ⟨_, _, sameGoal_ok g.own g hgs _ _ true (by simp [Gl.key, Gl.own]), fun _ => rfl, ?_⟩
      conv => whnf
      refine hN2 (i + 1) _ (by omega) (by omega) ?_
      rw [← e]; rfl
    · conv => whnf
      have h := of_decide_eq_false h
      rw [hlen] at h
      have : i = gs.length := by omega
      subst this
      refine hE2 _ _ ?_
      conv => whnf
      have hd : (gs.map Gl.own).drop gs.length = [] := List.drop_eq_nil_of_le (by simp)
      refine ⟨_, _, next_none (rd := (gs.map Gl.own).drop gs.length) (wt := []) rfl hd, (fun h => nomatch h), ?_⟩
      conv => whnf
      exact ⟨rfl, rfl, rfl⟩
end Tree.Q10
