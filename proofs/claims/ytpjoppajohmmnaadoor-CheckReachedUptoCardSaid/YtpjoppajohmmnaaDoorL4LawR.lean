/- Layer 4: the law CheckReached, what E answers. -/
import Derived.Test.YtpjoppajohmmnaaDoorL4Reach
set_option autoImplicit false
set_option linter.unusedVariables false
set_option linter.unusedSimpArgs false
namespace Tree
open Go
set_option maxHeartbeats 4000000
set_option maxRecDepth 100000
def S573a (v a b : LV) (i : Int) (ob : Obs) : WSt := ⟨.val v :: List.replicate 6 (.val .undef) ++ .val a :: .val b :: .val (.int .i64 i) :: List.replicate 67 (.val .undef), ob, []⟩
def S573b (v a b : LV) (i : Int) (w : LV) (k : Int) (ob : Obs) : WSt := ⟨.val v :: List.replicate 6 (.val .undef) ++ .val a :: .val b :: .val (.int .i64 i) :: .val w :: .val (.int .i64 k) :: List.replicate 65 (.val .undef), ob, []⟩
def S573c (v a b : LV) (i : Int) (w : LV) (k : Int) (u : LV) (j : Int) (ob : Obs) : WSt := ⟨.val v :: List.replicate 6 (.val .undef) ++ .val a :: .val b :: .val (.int .i64 i) :: .val w :: .val (.int .i64 k) :: .val u :: .val (.int .i64 j) :: List.replicate 63 (.val .undef), ob, []⟩
theorem checkReached_ok (live : Gives env4 275 [] [] 0 (.bool true, [])) (p : List Cl) (sp : List (List LV)) (ts : List T1) (s2 : List (List LV)) (cs : List C) (s3 : List (List LV)) (hl : p.length ≤ 1048576) (hf : ∀ c ∈ p, c.fine) (htl : ts.length + 1 ≤ 1048576) (htf : ∀ t ∈ ts, t.fine) (hc : (T1.mk 0 cs s3).fine) (hb : (p.flatMap Cl.body).length ≤ 1048576) :
    Gives env4 573 [slC false 0 p sp, sl1 false 0 ts s2, sl5 false 0 cs s3] [] 0 (.bool true, []) := by
  have htlen : (ts.map T1.row).length = ts.length := by simp
  obtain ⟨us, hus⟩ : ∃ us, us = ts ++ [T1.mk 0 cs s3] := ⟨_, rfl⟩
  have hul : us.length = ts.length + 1 := by rw [hus]; simp
  have huf : ∀ t ∈ us, t.fine := fun t ht => by
    rw [hus] at ht
    rcases List.mem_append.1 ht with h | h
    · exact htf t h
    · rw [List.mem_singleton.1 h]; exact hc
  have hmore := reach_more (p := p) (ts := ts) (us := us) (fun t ht => ⟨t, by rw [hus]; exact List.mem_append_left _ ht, rfl⟩)
  obtain ⟨hA, hAl⟩ := reachC_ok p ts
  obtain ⟨hB, hBl⟩ := reachC_ok p us
  have hAn := allOf_len p ts
  have hBn := allOf_len p us
  refine gives_code (f := tf573) rfl ?_
  conv => whnf
  refine ⟨_, _, live, fun _ => rfl, ?_⟩
  conv => whnf
  refine ⟨_, _, reached_ok 0 p sp 0 ts s2 hl hf (by omega) htf hb [] _, fun _ => noRefP _ _ _ _, ?_⟩
  obtain ⟨a, ha⟩ : ∃ a, a = reachC p ts := ⟨_, rfl⟩
  rw [← ha] at hA hAl hmore ⊢
  have hal : (a.map prow).length = a.length := by simp
  conv => whnf
  refine ⟨ts.map T1.row, ⟨.inl rfl, ?_, by simp⟩, ?_⟩
  · show (0 + (ts.map T1.row).length) * 24 ≤ _
    rw [htlen]; omega
  conv => whnf
  refine ⟨us.map T1.row, ⟨.inl rfl, ?_, ?_⟩, ?_⟩
  · show ((ts.map T1.row).length + 1) * 24 ≤ _
    rw [htlen]; omega
  · rw [hus, List.map_append]; rfl
  conv => whnf
  refine ⟨_, _, reached_ok 0 p sp 0 us [] hl hf (by omega) huf hb [] _, fun _ => noRefP _ _ _ _, ?_⟩
  obtain ⟨b, hb2⟩ : ∃ b, b = reachC p us := ⟨_, rfl⟩
  rw [← hb2] at hB hBl hmore ⊢
  have hbl : (b.map prow).length = b.length := by simp
  conv => whnf
  refine loop_abs (S := fun i : Nat => S573a (slC false 0 p sp) (slP true 0 a []) (slP true 0 b []) i []) (m := fun i => a.length - i) (P := fun i => i ≤ a.length) ?_ 0 (Nat.zero_le _) rfl
  intro R i hi hN hE hR
  conv => whnf
  refine sel_split (fun h => ?_) (fun h => ?_)
  · conv => whnf
    have h := of_decide_eq_true h
    rw [hal] at h
    obtain ⟨q, hq⟩ : ∃ q, a[i]? = some q := ⟨_, List.getElem?_eq_getElem (show i < a.length by omega)⟩
    have hqa := List.mem_of_getElem? hq
    have e : IntKind.i64.wrap ((i : Int) + 1) = ((i + 1 : Nat) : Int) := by rw [wrap64] <;> omega
    refine ⟨_, ⟨by omega, idx_p hq⟩, ?_⟩
    conv => whnf
    refine ⟨_, _, has_ok 0 b [] q (by omega) [] _ true ⟨fun _ => hmore q hqa, fun _ => rfl⟩, fun _ => rfl, ?_⟩
    conv => whnf
    refine ⟨_, ⟨by omega, idx_p hq⟩, ?_⟩
    conv => whnf
    refine ⟨_, ⟨by omega, idx_p hq⟩, ?_⟩
    conv => whnf
    refine ⟨_, _, clauses_ok 0 p sp q hl hf [] _, fun _ => noRefN _ _ _ _, ?_⟩
    conv => whnf
    obtain ⟨ks, hks⟩ : ∃ ks, ks = clausesC p q := ⟨_, rfl⟩
    rw [← hks]
    have hkl : ks.length ≤ p.length := by rw [hks]; exact clausesN_len p q _
    have hksl : (ks.map irow).length = ks.length := by simp
    refine loop_abs (S := fun k : Nat => S573b (slC false 0 p sp) (slP true 0 a []) (slP true 0 b []) i (slN false 0 ks []) k []) (m := fun k => ks.length - k) (P := fun k => k ≤ ks.length) ?_ 0 (Nat.zero_le _) rfl
    intro R2 k hk hN2 hE2 hR2
    conv => whnf
    refine sel_split (fun h2 => ?_) (fun h2 => ?_)
    · conv => whnf
      have h2 := of_decide_eq_true h2
      rw [hksl] at h2
      obtain ⟨c, hc'⟩ : ∃ c, ks[k]? = some c := ⟨_, List.getElem?_eq_getElem (show k < ks.length by omega)⟩
      have ek : IntKind.i64.wrap ((k : Int) + 1) = ((k + 1 : Nat) : Int) := by rw [wrap64] <;> omega
      refine ⟨_, ⟨by omega, idx_i hc'⟩, ?_⟩
      conv => whnf
      refine ⟨_, _, callsAt_ok 0 p sp c hf [] _, fun _ => noRefP _ _ _ _, ?_⟩
      conv => whnf
      obtain ⟨ds, hds⟩ : ∃ ds, ds = callsAt p c := ⟨_, rfl⟩
      rw [← hds]
      have hdl : (ds.map prow).length = ds.length := by simp
      have hdn : ds.length ≤ 1048576 := by
        rw [hds]; unfold callsAt; split
        · rename_i c hc
          have h1 := callsC_len c.body []
          have h2 := (hf c (List.mem_of_getElem? hc)).bl
          simp only [List.length_nil, Nat.zero_add] at h1
          omega
        · exact Nat.zero_le _
      refine loop_abs (S := fun j : Nat => S573c (slC false 0 p sp) (slP true 0 a []) (slP true 0 b []) i (slN false 0 ks []) k (slP true 0 ds []) j []) (m := fun j => ds.length - j) (P := fun j => j ≤ ds.length) ?_ 0 (Nat.zero_le _) rfl
      intro R3 j hj hN3 hE3 hR3
      conv => whnf
      refine sel_split (fun h3 => ?_) (fun h3 => ?_)
      · conv => whnf
        have h3 := of_decide_eq_true h3
        rw [hdl] at h3
        obtain ⟨d, hd⟩ : ∃ d, ds[j]? = some d := ⟨_, List.getElem?_eq_getElem (show j < ds.length by omega)⟩
        have ej : IntKind.i64.wrap ((j : Int) + 1) = ((j + 1 : Nat) : Int) := by rw [wrap64] <;> omega
        refine ⟨_, ⟨by omega, idx_p hd⟩, ?_⟩
        conv => whnf
        refine ⟨_, _, has_ok 0 a [] d (by omega) [] _ true ⟨fun _ => ?_, fun _ => rfl⟩, fun _ => rfl, ?_⟩
        · exact reach_closed hA hqa (by rw [← hks]; exact List.mem_of_getElem? hc') (by rw [← hds]; exact List.mem_of_getElem? hd)
        conv => whnf
        refine hN3 (j + 1) _ (by omega) (by omega) ?_
        rw [← ej]; rfl
      · conv => whnf
        have h3 := of_decide_eq_false h3
        rw [hdl] at h3
        refine hE3 _ _ ?_
        conv => whnf
        refine hN2 (k + 1) _ (by omega) (by omega) ?_
        rw [← ek]; rfl
    · conv => whnf
      refine hE2 _ _ ?_
      conv => whnf
      refine hN (i + 1) _ (by omega) (by omega) ?_
      rw [← e]; rfl
  · conv => whnf
    refine hE _ _ ?_
    conv => whnf
    exact ⟨rfl, rfl, rfl⟩
end Tree
