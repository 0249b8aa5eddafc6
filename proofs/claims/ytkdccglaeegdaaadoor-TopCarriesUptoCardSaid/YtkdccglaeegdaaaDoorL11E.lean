/- Layer 11: messages as bytes. -/
import Derived.Test.YtkdccglaeegdaaaDoorL11D
import Derived.Test.YtkdccglaeegdaaaDoorL11DR
import Derived.Test.YtkdccglaeegdaaaDoorL11W
set_option autoImplicit false
set_option linter.unusedVariables false
set_option linter.unusedSimpArgs false
namespace Tree.W11
open Go
set_option maxHeartbeats 8000000
set_option maxRecDepth 100000
def hdB (m : M) : List Int := if m.tg = 3 then nameB m.g1 m.g2 else if m.tg = 6 then [] else nameB m.v1 m.v2
def midB (m : M) : List Int := if m.tg = 2 ∨ m.tg = 3 then termB m.cs else if m.tg = 4 ∨ m.tg = 5 then numB m.cn.toNat else if m.tg = 6 then numB m.cn.toNat ++ numB m.fl.toNat else []
def crB (m : M) : List Int := if m.tg = 4 ∨ m.tg = 5 then [] else amtB m.w m.bits
def msgB (m : M) : List Int := m.tg :: (hdB m ++ midB m ++ crB m)
def encM (r : Bool) (m : M) : LV := if r then (if (msgB m).length > 65536 then .tup [slB false [], .int .i64 5] else .tup [slB false (msgB m), .int .i64 0]) else .tup [slB false [], .int .i64 6]
theorem amtB_len (w : Int) (bits : List Int) (h : AmtOk w bits) (hb : bits.length ≤ 1048576) : (amtB w bits).length ≤ 10485800 := by
  have n1 := numB_len w.toNat (by have := h.1; omega)
  have n2 := numB_len bits.length (by omega)
  have n3 := difB_len 0 bits (Int.le_refl _) h.2
  unfold amtB; rw [List.length_append, List.length_append]; omega
theorem encM_long {m : M} (h : (msgB m).length > 65536) : encM true m = .tup [slB false [], .int .i64 5] := by unfold encM; rw [if_pos rfl, if_pos h]
theorem encM_fine {m : M} (h : ¬ (msgB m).length > 65536) : encM true m = .tup [slB false (msgB m), .int .i64 0] := by unfold encM; rw [if_pos rfl, if_neg h]
theorem enc_ok (m : M) (l1 : Nat) (s1 : List (List LV)) (l2 : Nat) (s2 : List (List LV)) (hc : m.cs.length ≤ 1048576) (hf : ∀ c ∈ m.cs, c.fine) (hb : m.bits.length ≤ 1048576) (ob : Obs) (pb : Nat) (hpb : pb ≤ ob.length) (r : Bool) (hr : r = true ↔ RightM m) (hs1 : ∀ n, LV.noRefss n s1 = true) (hs2 : ∀ n, LV.noRefss n s2 = true) : ∃ ob', Gives env11 483 [m.lv l1 s1 l2 s2] ob pb (encM r m, ob') := by
  have kr := fun ob pb => rightM_ok m l1 s1 l2 s2 (by omega) hf (by omega) ob pb r hr hs1 hs2
  obtain ⟨tg, v1, v2, g1, g2, cs, cn, fl, w, bits⟩ := m
  refine gives_codeE (f := tf483) rfl ?_
  conv => whnf
  refine ⟨_, _, kr _ _, fun _ => rfl, ?_⟩
  cases r with
  | false =>
    conv => whnf
    exact ⟨rfl, rfl⟩
  | true =>
    have hR := hr.1 rfl
    have hid : ob.length < (ob ++ [obW []]).length := by simp
    unfold RightM at hR
    simp only at hR hc hb
    rcases hR with ⟨rfl, hv, hg, ht, hn, hfl, hp⟩ | ⟨rfl, hv, hg, ht, hn, hfl, hp⟩ | ⟨rfl, hv, hg, ht, hn, hfl, hp⟩ | ⟨rfl, hv, hg, ht, hn, hfl, hw0, hb0⟩ | ⟨rfl, hv, hg, ht, hn, hfl, hw0, hb0⟩ | ⟨rfl, hv, hg, ht, hn, hfl, hp⟩
    · have hnm : 0 ≤ v2 ∧ v2 ≤ 2147483647 := hv.2.2
      have lnm := numB_len v2.toNat (by omega)
      have lnb : (nameB v1 v2).length ≤ 11 := by unfold nameB; rw [List.length_cons]; omega
      have hA := hp.1
      have lam := amtB_len w bits hA hb
      have hm : msgB ⟨1, v1, v2, g1, g2, cs, cn, fl, w, bits⟩ = [1] ++ nameB v1 v2 ++ amtB w bits := by simp [msgB, hdB, midB, crB]
      have O0 : ((ob ++ [obW []]).set ob.length (obW [1]))[ob.length]? = some (obW [1]) := at_set hid
      conv => whnf
      refine ⟨by decide, ?_⟩
      conv => whnf
      refine ⟨_, _, ⟨hpb, List.getElem?_concat_length, rfl, rfl⟩, ?_⟩
      conv => whnf
      have G0 := name_ok O0 hpb v1 v2 (by omega) (by omega) (by simp)
      refine ⟨_, _, G0, fun e => (nomatch e), ?_⟩
      have O1 := at_set (v := obW ([1] ++ nameB v1 v2)) (List.getElem?_eq_some_iff.1 O0).1
      conv => whnf
      have G1 := amount_ok O1 hpb w bits l2 s2 hA hb (by simp <;> omega)
      refine ⟨_, _, G1, fun e => (nomatch e), ?_⟩
      have O2 := at_set (v := obW (([1] ++ nameB v1 v2) ++ amtB w bits)) (List.getElem?_eq_some_iff.1 O1).1
      conv => whnf
      refine ⟨_, _, ⟨O2, rfl, rfl⟩, ?_⟩
      conv => whnf
      refine sel_split (fun h => ?_) (fun h => ?_)
      · have h := of_decide_eq_true h
        rw [List.length_map] at h
        conv => whnf
        exact ⟨rfl, (encM_long (by rw [hm]; omega)).symm⟩
      · have h := of_decide_eq_false h
        rw [List.length_map] at h
        conv => whnf
        refine ⟨_, _, ⟨O2, rfl, rfl⟩, ?_⟩
        conv => whnf
        refine .inl ⟨_, _, _, _, ⟨hpb, O2, rfl⟩, ?_⟩
        conv => whnf
        refine ⟨rfl, ?_⟩
        rw [encM_fine (by rw [hm]; omega), hm]
        rfl
    · have hnm : 0 ≤ v2 ∧ v2 ≤ 2147483647 := hv.2.2
      have lnm := numB_len v2.toNat (by omega)
      have lnb : (nameB v1 v2).length ≤ 11 := by unfold nameB; rw [List.length_cons]; omega
      have hco := cok_of ht
      have hfl2 := flat_len hco
      have h256 := ht.1.1.2.1
      have lcs := numB_len cs.length (by omega)
      have lte : (termB cs).length ≤ 270000 := by unfold termB; rw [List.length_append]; omega
      have hA := hp.1
      have lam := amtB_len w bits hA hb
      have hm : msgB ⟨2, v1, v2, g1, g2, cs, cn, fl, w, bits⟩ = [2] ++ nameB v1 v2 ++ termB cs ++ amtB w bits := by simp [msgB, hdB, midB, crB]
      have O0 : ((ob ++ [obW []]).set ob.length (obW [2]))[ob.length]? = some (obW [2]) := at_set hid
      conv => whnf
      refine ⟨by decide, ?_⟩
      conv => whnf
      refine ⟨_, _, ⟨hpb, List.getElem?_concat_length, rfl, rfl⟩, ?_⟩
      conv => whnf
      have G0 := name_ok O0 hpb v1 v2 (by omega) (by omega) (by simp)
      refine ⟨_, _, G0, fun e => (nomatch e), ?_⟩
      have O1 := at_set (v := obW ([2] ++ nameB v1 v2)) (List.getElem?_eq_some_iff.1 O0).1
      conv => whnf
      have G1 := term_ok O1 hpb cs l1 s1 hc hco (by omega) (by simp <;> omega)
      refine ⟨_, _, G1, fun e => (nomatch e), ?_⟩
      have O2 := at_set (v := obW (([2] ++ nameB v1 v2) ++ termB cs)) (List.getElem?_eq_some_iff.1 O1).1
      conv => whnf
      have G2 := amount_ok O2 hpb w bits l2 s2 hA hb (by simp <;> omega)
      refine ⟨_, _, G2, fun e => (nomatch e), ?_⟩
      have O3 := at_set (v := obW ((([2] ++ nameB v1 v2) ++ termB cs) ++ amtB w bits)) (List.getElem?_eq_some_iff.1 O2).1
      conv => whnf
      refine ⟨_, _, ⟨O3, rfl, rfl⟩, ?_⟩
      conv => whnf
      refine sel_split (fun h => ?_) (fun h => ?_)
      · have h := of_decide_eq_true h
        rw [List.length_map] at h
        conv => whnf
        exact ⟨rfl, (encM_long (by rw [hm]; omega)).symm⟩
      · have h := of_decide_eq_false h
        rw [List.length_map] at h
        conv => whnf
        refine ⟨_, _, ⟨O3, rfl, rfl⟩, ?_⟩
        conv => whnf
        refine .inl ⟨_, _, _, _, ⟨hpb, O3, rfl⟩, ?_⟩
        conv => whnf
        refine ⟨rfl, ?_⟩
        rw [encM_fine (by rw [hm]; omega), hm]
        rfl
    · have hnm : 0 ≤ g2 ∧ g2 ≤ 2147483647 := hg.2.2
      have lnm := numB_len g2.toNat (by omega)
      have lnb : (nameB g1 g2).length ≤ 11 := by unfold nameB; rw [List.length_cons]; omega
      have hco := cok_of ht
      have hfl2 := flat_len hco
      have h256 := ht.1.1.2.1
      have lcs := numB_len cs.length (by omega)
      have lte : (termB cs).length ≤ 270000 := by unfold termB; rw [List.length_append]; omega
      have hA := hp.1
      have lam := amtB_len w bits hA hb
      have hm : msgB ⟨3, v1, v2, g1, g2, cs, cn, fl, w, bits⟩ = [3] ++ nameB g1 g2 ++ termB cs ++ amtB w bits := by simp [msgB, hdB, midB, crB]
      have O0 : ((ob ++ [obW []]).set ob.length (obW [3]))[ob.length]? = some (obW [3]) := at_set hid
      conv => whnf
      refine ⟨by decide, ?_⟩
      conv => whnf
      refine ⟨_, _, ⟨hpb, List.getElem?_concat_length, rfl, rfl⟩, ?_⟩
      conv => whnf
      have G0 := name_ok O0 hpb g1 g2 (by omega) (by omega) (by simp)
      refine ⟨_, _, G0, fun e => (nomatch e), ?_⟩
      have O1 := at_set (v := obW ([3] ++ nameB g1 g2)) (List.getElem?_eq_some_iff.1 O0).1
      conv => whnf
      have G1 := term_ok O1 hpb cs l1 s1 hc hco (by omega) (by simp <;> omega)
      refine ⟨_, _, G1, fun e => (nomatch e), ?_⟩
      have O2 := at_set (v := obW (([3] ++ nameB g1 g2) ++ termB cs)) (List.getElem?_eq_some_iff.1 O1).1
      conv => whnf
      have G2 := amount_ok O2 hpb w bits l2 s2 hA hb (by simp <;> omega)
      refine ⟨_, _, G2, fun e => (nomatch e), ?_⟩
      have O3 := at_set (v := obW ((([3] ++ nameB g1 g2) ++ termB cs) ++ amtB w bits)) (List.getElem?_eq_some_iff.1 O2).1
      conv => whnf
      refine ⟨_, _, ⟨O3, rfl, rfl⟩, ?_⟩
      conv => whnf
      refine sel_split (fun h => ?_) (fun h => ?_)
      · have h := of_decide_eq_true h
        rw [List.length_map] at h
        conv => whnf
        exact ⟨rfl, (encM_long (by rw [hm]; omega)).symm⟩
      · have h := of_decide_eq_false h
        rw [List.length_map] at h
        conv => whnf
        refine ⟨_, _, ⟨O3, rfl, rfl⟩, ?_⟩
        conv => whnf
        refine .inl ⟨_, _, _, _, ⟨hpb, O3, rfl⟩, ?_⟩
        conv => whnf
        refine ⟨rfl, ?_⟩
        rw [encM_fine (by rw [hm]; omega), hm]
        rfl
    · have hnm : 0 ≤ v2 ∧ v2 ≤ 2147483647 := hv.2.2
      have lnm := numB_len v2.toNat (by omega)
      have lnb : (nameB v1 v2).length ≤ 11 := by unfold nameB; rw [List.length_cons]; omega
      have ecn : cn = ((cn.toNat : Nat) : Int) := by omega
      have lcn := numB_len cn.toNat (by omega)
      have hm : msgB ⟨4, v1, v2, g1, g2, cs, cn, fl, w, bits⟩ = [4] ++ nameB v1 v2 ++ numB cn.toNat := by simp [msgB, hdB, midB, crB]
      have O0 : ((ob ++ [obW []]).set ob.length (obW [4]))[ob.length]? = some (obW [4]) := at_set hid
      conv => whnf
      refine ⟨by decide, ?_⟩
      conv => whnf
      refine ⟨_, _, ⟨hpb, List.getElem?_concat_length, rfl, rfl⟩, ?_⟩
      conv => whnf
      have G0 := name_ok O0 hpb v1 v2 (by omega) (by omega) (by simp)
      refine ⟨_, _, G0, fun e => (nomatch e), ?_⟩
      have O1 := at_set (v := obW ([4] ++ nameB v1 v2)) (List.getElem?_eq_some_iff.1 O0).1
      conv => whnf
      have G1 := number_ok O1 hpb cn.toNat (by omega) (by simp <;> omega)
      rw [← ecn] at G1
      refine ⟨_, _, G1, fun e => (nomatch e), ?_⟩
      have O2 := at_set (v := obW (([4] ++ nameB v1 v2) ++ numB cn.toNat)) (List.getElem?_eq_some_iff.1 O1).1
      conv => whnf
      refine ⟨_, _, ⟨O2, rfl, rfl⟩, ?_⟩
      conv => whnf
      refine sel_split (fun h => ?_) (fun h => ?_)
      · have h := of_decide_eq_true h
        rw [List.length_map] at h
        conv => whnf
        exact ⟨rfl, (encM_long (by rw [hm]; omega)).symm⟩
      · have h := of_decide_eq_false h
        rw [List.length_map] at h
        conv => whnf
        refine ⟨_, _, ⟨O2, rfl, rfl⟩, ?_⟩
        conv => whnf
        refine .inl ⟨_, _, _, _, ⟨hpb, O2, rfl⟩, ?_⟩
        conv => whnf
        refine ⟨rfl, ?_⟩
        rw [encM_fine (by rw [hm]; omega), hm]
        rfl
    · have hnm : 0 ≤ v2 ∧ v2 ≤ 2147483647 := hv.2.2
      have lnm := numB_len v2.toNat (by omega)
      have lnb : (nameB v1 v2).length ≤ 11 := by unfold nameB; rw [List.length_cons]; omega
      have ecn : cn = ((cn.toNat : Nat) : Int) := by omega
      have lcn := numB_len cn.toNat (by omega)
      have hm : msgB ⟨5, v1, v2, g1, g2, cs, cn, fl, w, bits⟩ = [5] ++ nameB v1 v2 ++ numB cn.toNat := by simp [msgB, hdB, midB, crB]
      have O0 : ((ob ++ [obW []]).set ob.length (obW [5]))[ob.length]? = some (obW [5]) := at_set hid
      conv => whnf
      refine ⟨by decide, ?_⟩
      conv => whnf
      refine ⟨_, _, ⟨hpb, List.getElem?_concat_length, rfl, rfl⟩, ?_⟩
      conv => whnf
      have G0 := name_ok O0 hpb v1 v2 (by omega) (by omega) (by simp)
      refine ⟨_, _, G0, fun e => (nomatch e), ?_⟩
      have O1 := at_set (v := obW ([5] ++ nameB v1 v2)) (List.getElem?_eq_some_iff.1 O0).1
      conv => whnf
      have G1 := number_ok O1 hpb cn.toNat (by omega) (by simp <;> omega)
      rw [← ecn] at G1
      refine ⟨_, _, G1, fun e => (nomatch e), ?_⟩
      have O2 := at_set (v := obW (([5] ++ nameB v1 v2) ++ numB cn.toNat)) (List.getElem?_eq_some_iff.1 O1).1
      conv => whnf
      refine ⟨_, _, ⟨O2, rfl, rfl⟩, ?_⟩
      conv => whnf
      refine sel_split (fun h => ?_) (fun h => ?_)
      · have h := of_decide_eq_true h
        rw [List.length_map] at h
        conv => whnf
        exact ⟨rfl, (encM_long (by rw [hm]; omega)).symm⟩
      · have h := of_decide_eq_false h
        rw [List.length_map] at h
        conv => whnf
        refine ⟨_, _, ⟨O2, rfl, rfl⟩, ?_⟩
        conv => whnf
        refine .inl ⟨_, _, _, _, ⟨hpb, O2, rfl⟩, ?_⟩
        conv => whnf
        refine ⟨rfl, ?_⟩
        rw [encM_fine (by rw [hm]; omega), hm]
        rfl
    · have ecn : cn = ((cn.toNat : Nat) : Int) := by omega
      have lcn := numB_len cn.toNat (by omega)
      have efl : fl = ((fl.toNat : Nat) : Int) := by omega
      have lfl := numB_len fl.toNat (by omega)
      have hA := hp.1
      have lam := amtB_len w bits hA hb
      have hm : msgB ⟨6, v1, v2, g1, g2, cs, cn, fl, w, bits⟩ = [6] ++ numB cn.toNat ++ numB fl.toNat ++ amtB w bits := by simp [msgB, hdB, midB, crB]
      have O0 : ((ob ++ [obW []]).set ob.length (obW [6]))[ob.length]? = some (obW [6]) := at_set hid
      conv => whnf
      refine ⟨by decide, ?_⟩
      conv => whnf
      refine ⟨_, _, ⟨hpb, List.getElem?_concat_length, rfl, rfl⟩, ?_⟩
      conv => whnf
      have G0 := number_ok O0 hpb cn.toNat (by omega) (by simp <;> omega)
      rw [← ecn] at G0
      refine ⟨_, _, G0, fun e => (nomatch e), ?_⟩
      have O1 := at_set (v := obW ([6] ++ numB cn.toNat)) (List.getElem?_eq_some_iff.1 O0).1
      conv => whnf
      have G1 := number_ok O1 hpb fl.toNat (by omega) (by simp <;> omega)
      rw [← efl] at G1
      refine ⟨_, _, G1, fun e => (nomatch e), ?_⟩
      have O2 := at_set (v := obW (([6] ++ numB cn.toNat) ++ numB fl.toNat)) (List.getElem?_eq_some_iff.1 O1).1
      conv => whnf
      have G2 := amount_ok O2 hpb w bits l2 s2 hA hb (by simp <;> omega)
      refine ⟨_, _, G2, fun e => (nomatch e), ?_⟩
      have O3 := at_set (v := obW ((([6] ++ numB cn.toNat) ++ numB fl.toNat) ++ amtB w bits)) (List.getElem?_eq_some_iff.1 O2).1
      conv => whnf
      refine ⟨_, _, ⟨O3, rfl, rfl⟩, ?_⟩
      conv => whnf
      refine sel_split (fun h => ?_) (fun h => ?_)
      · have h := of_decide_eq_true h
        rw [List.length_map] at h
        conv => whnf
        exact ⟨rfl, (encM_long (by rw [hm]; omega)).symm⟩
      · have h := of_decide_eq_false h
        rw [List.length_map] at h
        conv => whnf
        refine ⟨_, _, ⟨O3, rfl, rfl⟩, ?_⟩
        conv => whnf
        refine .inl ⟨_, _, _, _, ⟨hpb, O3, rfl⟩, ?_⟩
        conv => whnf
        refine ⟨rfl, ?_⟩
        rw [encM_fine (by rw [hm]; omega), hm]
        rfl
end Tree.W11
