/- Package journal: logs. -/
import Derived.Test.YtogeefachdlkiaaLJ4
set_option autoImplicit false
set_option linter.unusedVariables false
set_option linter.unusedSimpArgs false
namespace Tree.J14
open Go
set_option maxHeartbeats 8000000
set_option maxRecDepth 100000
def okB (l : List Int) : Prop := ∀ c ∈ l, 0 ≤ c ∧ c < 256
def okP (P : List (List Int)) : Prop := ∀ p ∈ P, p.length ≤ 131072 ∧ okB p
theorem fourL_ok (n : Int) : okB (fourL n) := by
  intro c hc
  simp only [fourL, List.mem_cons, List.not_mem_nil, or_false] at hc
  omega
theorem okB_app {a b : List Int} (ha : okB a) (hb : okB b) : okB (a ++ b) := fun c hc => (List.mem_append.1 hc).elim (ha c) (hb c)
theorem recL_ok {p : List Int} (h : okB p) : okB (recL p) := okB_app (fourL_ok _) (okB_app (fourL_ok _) h)
theorem dsk_ok : ∀ {P : List (List Int)}, okP P → okB (dsk P)
  | [], _ => fun c hc => by simp [dsk] at hc
  | p :: P, h => by
    rw [dsk_cons]
    exact okB_app (recL_ok (h p (List.mem_cons_self ..)).2) (dsk_ok fun q hq => h q (List.mem_cons_of_mem _ hq))
theorem okB_sub {l m : List Int} (h : okB l) (hm : ∀ c ∈ m, c ∈ l) : okB m := fun c hc => h c (hm c hc)
/-- A log as an object. -/
def logO (o : Bool) (l : List Int) (n e : Nat) : List LV := [slB o l, .int .i64 n, .int .i64 e]
theorem off_len (P : List (List Int)) (i : Nat) : offR P i ≤ (dsk P).length := by
  have : dsk P = dsk (P.take i) ++ dsk (P.drop i) := by
    unfold dsk; rw [← List.flatMap_append, List.take_append_drop]
  rw [this, List.length_append]; unfold offR; omega
theorem list_set_same {α : Type} {l : List α} {i : Nat} {x : α} (h : l[i]? = some x) : l = l.set i x := by
  apply List.ext_getElem?; intro j
  rw [List.getElem?_set]
  split
  · rename_i e; subst e
    rw [if_pos (List.getElem?_eq_some_iff.1 h).1, h]
  · rfl
theorem look_ok (P : List (List Int)) (hP : okP P) (k : Nat) (hk : k ≤ 1099511627776) (hlen : P.length ≤ 1099511627776) (o : Bool) (i : Nat) (hi : i ≤ cntR P k) (id : Nat) (ob : Obs) (pb : Nat) (hpb : pb ≤ id) (hob : ob[id]? = some (logO o ((dsk P).take k) i (offR P i))) :
    Gives envJ 636 [.optr id 0] ob pb (.tup [], ob.set id (logO o ((dsk P).take k) (cntR P k) (offR P (cntR P k)))) := by
  have hid : id < ob.length := (List.getElem?_eq_some_iff.1 hob).1
  have hbl : ((dsk P).take k).length ≤ k := by rw [List.length_take]; omega
  have hoL := dsk_ok hP
  have hg : ∀ c : List LV, (ob.set id c)[id]? = some c := fun c => List.getElem?_set_self hid
  refine gives_code (f := tf636) rfl ?_
  conv => whnf
  refine loop_v (V := fun _ : Nat × Obs => []) (O := fun j => j.2) (m := fun j => cntR P k - j.1) (P := fun j => j.1 ≤ cntR P k ∧ j.2 = ob.set id (logO o ((dsk P).take k) j.1 (offR P j.1))) ?_ (i, ob) ⟨hi, list_set_same hob⟩ rfl
  rintro R ⟨j, ob1⟩ ⟨hj, hob1⟩ hN hE hR
  dsimp only at hj hob1
  have hst := look_step P k j (fun p hp => (hP p hp).1) hj
  have hoff := off_le P k j hj
  have hcl := cntR_le P k
  have hoff1 := off_len P j
  have hoff2 : offR P j ≤ ((dsk P).take k).length := by rw [List.length_take]; omega
  obtain ⟨l, hl1, hl2⟩ := first_ok (((dsk P).take k).drop (offR P j)) (by rw [List.length_drop]; omega) (okB_sub hoL fun c hc => List.mem_of_mem_take (List.mem_of_mem_drop hc)) false
  have hbd := bts_len ((dsk P).take k)
  have hdrop := bts_drop ((dsk P).take k) (offR P j)
  have hget : ob1[id]? = some [.sl o 0 1 (bts ((dsk P).take k)) [], .int .i64 j, .int .i64 (offR P j)] := by rw [hob1]; exact hg _
  unfold slB at hl2
  have hstep := @off_step P j
  have hnr : ∀ n, LV.noRefss n (bts l) = true := fun n => bts_noRef n l
  have e1 : IntKind.i64.wrap ((j : Int) + 1) = ((j + 1 : Nat) : Int) := by rw [wrap64] <;> omega
  by_cases hjc : j < cntR P k
  · obtain ⟨p, hp⟩ : ∃ p, P[j]? = some p := ⟨_, List.getElem?_eq_getElem (show j < P.length by omega)⟩
    rw [if_pos hjc, hp] at hst
    obtain rfl := hl1 p hst
    have hs2 := hstep hp
    have hpl := (hP l (List.mem_of_getElem? hp)).1
    have hlb := bts_len l
    rw [hst] at hl2
    generalize hB : bts ((dsk P).take k) = B at *
    generalize hF : offR P j = f at *
    conv => whnf
    refine ⟨_, _, ⟨hget, rfl, rfl⟩, ?_⟩
    conv => whnf
    refine ⟨_, _, ⟨hget, rfl, rfl⟩, ?_⟩
    conv => whnf
    refine ⟨B.drop f, [], ⟨⟨by omega, by omega, by rw [List.append_nil]; omega⟩, by rw [List.append_nil]; show _ = List.drop f (B.take B.length); rw [List.take_length], by simp⟩, ?_⟩
    conv => whnf
    rw [← hdrop]
    refine ⟨_, _, hl2 _ _, fun _ => by simp [LV.noRef, LV.noRefs, LV.noRefss, hnr], ?_⟩
    conv => whnf
    refine ⟨_, _, ⟨hget, rfl, rfl⟩, ?_⟩
    conv => whnf
    rw [e1]
    refine ⟨_, _, ⟨hpb, hget, rfl, rfl⟩, ?_⟩
    conv => whnf
    have hg1 : ∀ c : List LV, (ob1.set id c)[id]? = some c := fun c => List.getElem?_set_self (by rw [hob1, List.length_set]; exact hid)
    refine ⟨_, _, ⟨hg1 _, rfl, rfl⟩, ?_⟩
    conv => whnf
    have e2 : IntKind.i64.wrap (8 + ((bts l).length : Int)) = ((8 + l.length : Nat) : Int) := by rw [hlb, wrap64] <;> omega
    rw [e2]
    have e3 : IntKind.i64.wrap ((f : Int) + ((8 + l.length : Nat) : Int)) = ((f + (8 + l.length) : Nat) : Int) := by rw [wrap64] <;> omega
    rw [e3]
    refine ⟨_, _, ⟨hpb, hg1 _, rfl, rfl⟩, ?_⟩
    conv => whnf
    refine hN (j + 1, ob.set id (logO o ((dsk P).take k) (j + 1) (offR P (j + 1)))) _ ⟨by dsimp only; omega, rfl⟩ (by dsimp only; omega) ?_
    rw [hob1, List.set_set, List.set_set, hs2]
    show _ = _
    unfold logO slB
    rw [hB]; rfl
  · rw [if_neg hjc] at hst
    rw [hst] at hl2
    have hje : j = cntR P k := by omega
    have hfin : ob1 = ob.set id (logO o ((dsk P).take k) (cntR P k) (offR P (cntR P k))) := by rw [hob1, hje]
    generalize hB : bts ((dsk P).take k) = B at *
    generalize hF : offR P j = f at *
    conv => whnf
    refine ⟨_, _, ⟨hget, rfl, rfl⟩, ?_⟩
    conv => whnf
    refine ⟨_, _, ⟨hget, rfl, rfl⟩, ?_⟩
    conv => whnf
    refine ⟨B.drop f, [], ⟨⟨by omega, by omega, by rw [List.append_nil]; omega⟩, by rw [List.append_nil]; show _ = List.drop f (B.take B.length); rw [List.take_length], by simp⟩, ?_⟩
    conv => whnf
    rw [← hdrop]
    refine ⟨_, _, hl2 _ _, fun _ => by simp [LV.noRef, LV.noRefs, LV.noRefss, hnr], ?_⟩
    conv => whnf
    refine hR _ ?_
    conv => whnf
    exact ⟨rfl, rfl, hfin⟩
theorem torn_ok (o : Bool) (l : List Int) (n : Nat) (hl : l.length ≤ 1099511627776) (id : Nat) (ob : Obs) (pb : Nat) (hob : ob[id]? = some (logO o l n l.length)) : Gives envJ 638 [.optr id 0] ob pb (.bool false, ob) := by
  have hbl := bts_len l
  have hget : ob[id]? = some [.sl o 0 1 (bts l) [], .int .i64 n, .int .i64 l.length] := hob
  generalize bts l = B at *
  refine gives_code (f := tf638) rfl ?_
  conv => whnf
  refine ⟨_, _, ⟨hget, rfl, rfl⟩, ?_⟩
  conv => whnf
  refine ⟨_, _, ⟨hget, rfl, rfl⟩, ?_⟩
  conv => whnf
  refine ⟨rfl, ?_, rfl⟩
  show LV.bool (decide ((l.length : Int) < (B.length : Int))) = LV.bool false
  rw [hbl]; simp
theorem cut_ok (P : List (List Int)) (hP : okP P) (p : List Int) (hp : p.length ≤ 131072 ∧ okB p) (hlen : P.length ≤ 1048576) (hk : (dsk P).length ≤ 4294967296) (o : Bool) (sp : List (List LV)) (id : Nat) (ob : Obs) (pb : Nat) (hpb : pb ≤ id) (hob : ob[id]? = some (logO true (dsk P) P.length (dsk P).length)) :
    Gives envJ 634 [.optr id 0, .sl o 0 1 (bts p) sp, .int .i64 ((p.length + 8 : Nat) : Int)] ob pb (.tup [.bool true, .int .i64 0], ob.set id (logO true (dsk (P ++ [p])) (P ++ [p]).length (dsk (P ++ [p])).length)) := by
  have hid : id < ob.length := (List.getElem?_eq_some_iff.1 hob).1
  have hP' : okP (P ++ [p]) := fun q hq => by
    rcases List.mem_append.1 hq with h | h
    · exact hP q h
    · rw [List.mem_singleton] at h; subst h; exact hp
  have hd := dsk_snoc P p
  have hdl : (dsk (P ++ [p])).length = (dsk P).length + (8 + p.length) := by rw [hd, List.length_append, recL_len]
  have hoff : offR (P ++ [p]) P.length = (dsk P).length := by unfold offR; rw [List.take_left' rfl]
  have hoff2 : offR (P ++ [p]) (P ++ [p]).length = (dsk (P ++ [p])).length := by unfold offR; rw [List.take_length]
  have hcn := cnt_all (P ++ [p])
  have gl : ∀ ob1 : Obs, ob1[id]? = some (logO true (dsk (P ++ [p])) P.length (dsk P).length) → Gives envJ 636 [.optr id 0] ob1 pb (.tup [], ob1.set id (logO true (dsk (P ++ [p])) (P ++ [p]).length (dsk (P ++ [p])).length)) := by
    intro ob1 h1
    have := look_ok (P ++ [p]) hP' (dsk (P ++ [p])).length (by omega) (by rw [List.length_append]; simp; omega) true P.length (by rw [hcn, List.length_append]; omega) id ob1 pb hpb (by rw [List.take_length, hoff]; exact h1)
    rw [List.take_length, hcn, hoff2] at this
    exact this
  have gt := fun pb => torn_ok true (dsk P) P.length (by omega) id ob pb hob
  have gr := fun o ob pb => record_ok p hp.1 o sp ob pb
  have nr := fun n => bts_noRef n (recL p)
  have hrl : (bts (recL p)).length = p.length + 8 := by rw [bts_len, recL_len]; omega
  have hbl : (bts (dsk P)).length = (dsk P).length := bts_len _
  have hget : ob[id]? = some [.sl true 0 1 (bts (dsk P)) [], .int .i64 P.length, .int .i64 (dsk P).length] := hob
  have happ : bts (dsk (P ++ [p])) = bts (dsk P) ++ bts (recL p) := by rw [hd, bts_app]
  have hpl : (P ++ [p]).length = P.length + 1 := by simp
  unfold logO slB at gl
  unfold logO slB
  unfold slB at gr
  rw [hpl] at gl ⊢
  generalize bts (dsk (P ++ [p])) = D' at *
  generalize (dsk (P ++ [p])).length = dl' at *
  generalize bts (recL p) = rl at *
  generalize bts (dsk P) = D at *
  generalize (dsk P).length = dl at *
  refine gives_code (f := tf634) rfl ?_
  conv => whnf
  refine ⟨_, _, gt _, fun _ => rfl, ?_⟩
  conv => whnf
  refine ⟨_, _, gr _ _ _, fun _ => by simp [LV.noRef, LV.noRefs, LV.noRefss, nr], ?_⟩
  conv => whnf
  refine ⟨_, _, ⟨hget, rfl, rfl⟩, ?_⟩
  conv => whnf
  refine ⟨_, _, ⟨hget, rfl, rfl⟩, ?_⟩
  conv => whnf
  have hmm : (if (rl.length : Int) < ((p.length + 8 : Nat) : Int) then (rl.length : Int) else ((p.length + 8 : Nat) : Int)) = (rl.length : Int) := by
    rw [hrl]; simp
  simp only [Bool.false_eq_true, if_false, hmm]
  refine ⟨rl, [], ⟨⟨by omega, by omega, by rw [List.append_nil]; omega⟩, by rw [List.append_nil]; show rl = List.drop 0 (List.take rl.length rl); rw [List.take_length, List.drop_zero], by rw [List.append_nil]; show [] = List.drop rl.length rl; rw [List.drop_length]⟩, ?_⟩
  conv => whnf
  refine ⟨_, _, _, _, ⟨hpb, hget, rfl⟩, ?_⟩
  conv => whnf
  refine ⟨D', ⟨.inl rfl, by rw [hbl, hrl]; omega, happ⟩, ?_⟩
  conv => whnf
  have hg1 : ∀ c : List LV, (ob.set id c)[id]? = some c := fun c => List.getElem?_set_self hid
  refine ⟨_, _, ⟨hpb, hg1 _, rfl, rfl⟩, ?_⟩
  conv => whnf
  rw [List.set_set]
  refine ⟨_, _, gl _ (hg1 _), fun h => (nomatch h), ?_⟩
  rw [List.set_set]
  conv => whnf
  refine ⟨_, _, ⟨hg1 _, rfl, rfl⟩, ?_⟩
  conv => whnf
  refine ⟨rfl, ?_, rfl⟩
  show LV.tup [.bool (decide (((P.length + 1 : Nat) : Int) > (P.length : Int))), .int .i64 0] = LV.tup [.bool true, .int .i64 0]
  rw [decide_eq_true (by omega)]
end Tree.J14
