/- Package journal: New, Append, Bytes, Open, Mend, Payloads. -/
import Derived.Test.YtogeefachdlkiaaLJ5
set_option autoImplicit false
set_option linter.unusedVariables false
set_option linter.unusedSimpArgs false
namespace Tree.J14
open Go
set_option maxHeartbeats 8000000
set_option maxRecDepth 100000
theorem new_ok (ob : Obs) (pb : Nat) : Gives envJ 627 [] ob pb (.optr ob.length 0, ob ++ [logO true [] 0 0]) := by
  refine gives_code (f := tf627) rfl ?_
  conv => whnf
  exact ⟨rfl, rfl, rfl⟩
theorem append_ok (P : List (List Int)) (hP : okP P) (p : List Int) (hp : p.length ≤ 131072 ∧ okB p) (hlen : P.length ≤ 1048576) (hk : (dsk P).length ≤ 4294967296) (o : Bool) (sp : List (List LV)) (id : Nat) (ob : Obs) (pb : Nat) (hpb : pb ≤ id) (hob : ob[id]? = some (logO true (dsk P) P.length (dsk P).length)) :
    Gives envJ 628 [.optr id 0, .sl o 0 1 (bts p) sp] ob pb (.int .i64 0, ob.set id (logO true (dsk (P ++ [p])) (P ++ [p]).length (dsk (P ++ [p])).length)) := by
  have g := fun o => cut_ok P hP p hp hlen hk o sp id ob pb hpb hob
  have e1 : IntKind.i64.wrap (((bts p).length : Int) + 8) = ((p.length + 8 : Nat) : Int) := by rw [bts_len, wrap64] <;> omega
  generalize bts p = B at *
  refine gives_code (f := tf628) rfl ?_
  conv => whnf
  rw [e1]
  refine ⟨_, _, g _, fun h => (nomatch h), ?_⟩
  conv => whnf
  exact ⟨rfl, rfl, rfl⟩
theorem clone_ok (l : List Int) (hl : l.length ≤ 140737488355328) (o : Bool) (sp : List (List LV)) (ob : Obs) (pb : Nat) : Gives envJ 635 [.sl o 0 1 (bts l) sp] ob pb (slB true l, ob) := by
  refine gives_ext (F := bcloneF) rfl ?_
  have h : byteRows (bts l) = some l := byteRows_map l
  show ((byteRows (bts l)).bind fun l' => _) = _
  rw [h, Option.bind_some, if_pos hl]; rfl
theorem bytes_ok (o : Bool) (l : List Int) (hl : l.length ≤ 140737488355328) (n e : Nat) (id : Nat) (ob : Obs) (pb : Nat) (hob : ob[id]? = some (logO o l n e)) : Gives envJ 629 [.optr id 0] ob pb (slB true l, ob) := by
  have hget : ob[id]? = some [.sl o 0 1 (bts l) [], .int .i64 n, .int .i64 e] := hob
  have g := fun o ob pb => clone_ok l hl o [] ob pb
  have nr := fun n => slB_noRef n true l
  unfold slB at g nr ⊢
  generalize bts l = B at *
  refine gives_code (f := tf629) rfl ?_
  conv => whnf
  refine ⟨_, _, ⟨hget, rfl, rfl⟩, ?_⟩
  conv => whnf
  refine ⟨_, _, g _ _ _, fun _ => nr _, ?_⟩
  conv => whnf
  exact ⟨rfl, rfl, rfl⟩
theorem open_ok (P : List (List Int)) (hP : okP P) (k : Nat) (hk : k ≤ 1099511627776) (hlen : P.length ≤ 1099511627776) (o : Bool) (sp : List (List LV)) (ob : Obs) (pb : Nat) (hpb : pb ≤ ob.length) :
    Gives envJ 630 [.sl o 0 1 (bts ((dsk P).take k)) sp] ob pb (.optr ob.length 0, ob ++ [logO true ((dsk P).take k) (cntR P k) (offR P (cntR P k))]) := by
  have hl : ((dsk P).take k).length ≤ k := by rw [List.length_take]; omega
  have g := fun o ob pb => clone_ok ((dsk P).take k) (by omega) o sp ob pb
  have gl := look_ok P hP k hk hlen true 0 (Nat.zero_le _) ob.length (ob ++ [logO true ((dsk P).take k) 0 (offR P 0)]) pb hpb (by rw [List.getElem?_append_right (Nat.le_refl _), Nat.sub_self]; rfl)
  rw [List.set_append_right _ _ (Nat.le_refl _), Nat.sub_self] at gl
  have nr := fun n => slB_noRef n true ((dsk P).take k)
  rw [offR_zero] at gl
  unfold logO at gl ⊢
  unfold slB at g nr gl ⊢
  generalize bts ((dsk P).take k) = B at *
  generalize cntR P k = c at *
  generalize offR P c = f at *
  refine gives_code (f := tf630) rfl ?_
  conv => whnf
  refine ⟨_, _, g _ _ _, fun _ => nr _, ?_⟩
  conv => whnf
  refine ⟨by decide, ?_⟩
  conv => whnf
  refine ⟨_, _, gl, fun h => (nomatch h), ?_⟩
  conv => whnf
  exact ⟨rfl, rfl, rfl⟩
theorem mend_ok (o : Bool) (l : List Int) (hl : l.length ≤ 140737488355328) (n e : Nat) (he : e ≤ l.length) (id : Nat) (ob : Obs) (pb : Nat) (hpb : pb ≤ id) (hob : ob[id]? = some (logO o l n e)) : ∃ r, Gives envJ 631 [.optr id 0] ob pb (.int .i64 r, ob.set id (logO false (l.take e) n e)) := by
  have hget : ob[id]? = some [.sl o 0 1 (bts l) [], .int .i64 n, .int .i64 e] := hob
  have hbl := bts_len l
  have hbt := bts_take l e
  unfold logO slB
  rw [hbt]
  generalize bts l = B at *
  refine ⟨IntKind.i64.wrap ((B.length : Int) - (e : Int)), gives_code (f := tf631) rfl ?_⟩
  conv => whnf
  refine ⟨_, _, ⟨hget, rfl, rfl⟩, ?_⟩
  conv => whnf
  refine ⟨_, _, ⟨hget, rfl, rfl⟩, ?_⟩
  conv => whnf
  refine ⟨_, _, ⟨hget, rfl, rfl⟩, ?_⟩
  conv => whnf
  refine ⟨_, _, ⟨hget, rfl, rfl⟩, ?_⟩
  conv => whnf
  refine ⟨_, _, ⟨hget, rfl, rfl⟩, ?_⟩
  conv => whnf
  refine ⟨B.take e, [], ⟨⟨by omega, by omega, by omega, by rw [List.append_nil]; omega⟩, by rw [List.append_nil]; show _ = List.drop 0 (List.take e B); rw [List.drop_zero], by rw [List.append_nil]; show [] = List.drop e (List.take e B); rw [List.drop_eq_nil_of_le (by rw [List.length_take]; omega)]⟩, ?_⟩
  conv => whnf
  refine ⟨_, _, ⟨hpb, hget, rfl, rfl⟩, ?_⟩
  conv => whnf
  exact ⟨rfl, rfl, rfl⟩
def pay (p : List Int) : List LV := [slB false p]
theorem pay_noRef (n : Nat) : ∀ Q : List (List Int), LV.noRefss n (Q.map pay) = true
  | [] => rfl
  | p :: r => by
    show LV.noRefss n (pay p :: r.map pay) = true
    simp only [LV.noRefss, pay, LV.noRefs, slB_noRef, Bool.true_and, pay_noRef n r]
theorem read_ok (Q : List (List Int)) (hQ : okP Q) (hlen : Q.length ≤ 1048576) (hk : (dsk Q).length ≤ 4294967296) (o : Bool) (ob : Obs) (pb : Nat) : Gives envJ 637 [slB o (dsk Q)] ob pb (.tup [.sl false 0 1 (Q.map pay) [], .int .i64 (dsk Q).length, .int .i64 0], ob) := by
  have hbl := bts_len (dsk Q)
  have hcn := cnt_all Q
  have hoL := dsk_ok hQ
  have hofl : offR Q Q.length = (dsk Q).length := by unfold offR; rw [List.take_length]
  refine gives_code (f := tf637) rfl ?_
  unfold slB
  conv => whnf
  refine loop_v (V := fun i : Nat => [(2, .sl true 0 1 ((Q.take i).map pay) []), (3, .int .i64 (offR Q i))]) (O := fun _ => ob) (m := fun i => Q.length - i) (P := fun i => i ≤ Q.length) ?_ 0 (Nat.zero_le _) (by rw [offR_zero]; rfl)
  intro R i hi hN hE hR
  have hst := look_step Q (dsk Q).length i (fun p hp => (hQ p hp).1) (by rw [hcn]; exact hi)
  rw [hcn, List.take_length] at hst
  have hoff1 := off_len Q i
  obtain ⟨l, hl1, hl2⟩ := first_ok ((dsk Q).drop (offR Q i)) (by rw [List.length_drop]; omega) (okB_sub hoL fun c hc => List.mem_of_mem_drop hc) false
  have hdrop := bts_drop (dsk Q) (offR Q i)
  have hnr : ∀ n, LV.noRefss n (bts l) = true := fun n => bts_noRef n l
  have hpz : ((Q.take i).map pay).length = i := by rw [List.length_map, List.length_take]; omega
  have hstep := @off_step Q i
  unfold slB at hl2
  by_cases hiq : i < Q.length
  · obtain ⟨p, hp⟩ : ∃ p, Q[i]? = some p := ⟨_, List.getElem?_eq_getElem hiq⟩
    rw [if_pos hiq, hp] at hst
    obtain rfl := hl1 p hst
    have hs2 := hstep hp
    have hpl := (hQ l (List.mem_of_getElem? hp)).1
    have hlb := bts_len l
    have hoff2 := off_len Q (i + 1)
    have htk : (Q.take (i + 1)).map pay = (Q.take i).map pay ++ [pay l] := by rw [List.take_add_one, hp, List.map_append]; rfl
    have gc := fun o ob pb => clone_ok l (by omega) o [] ob pb
    have nc := fun n => slB_noRef n true l
    unfold slB at gc nc
    rw [hst] at hl2
    have hlen2 : ((bts (dsk Q)).length : Int) = ((dsk Q).length : Int) := by rw [hbl]
    generalize hB : bts (dsk Q) = B at *
    generalize hF : offR Q i = f at *
    conv => whnf
    refine sel_t (by rw [hlen2]; simp; omega) ?_
    conv => whnf
    refine ⟨B.drop f, [], ⟨⟨by omega, by omega, by rw [List.append_nil]; omega⟩, by rw [List.append_nil]; show _ = List.drop f (B.take B.length); rw [List.take_length], by simp⟩, ?_⟩
    conv => whnf
    rw [← hdrop]
    refine ⟨_, _, hl2 _ _, fun _ => by simp [LV.noRef, LV.noRefs, LV.noRefss, hnr], ?_⟩
    conv => whnf
    refine ⟨_, _, gc _ _ _, fun _ => nc _, ?_⟩
    conv => whnf
    refine ⟨(Q.take (i + 1)).map pay, ⟨.inl rfl, by rw [hpz]; show (i + 1) * 24 ≤ _; omega, htk⟩, ?_⟩
    conv => whnf
    have e2 : IntKind.i64.wrap (8 + ((bts l).length : Int)) = ((8 + l.length : Nat) : Int) := by rw [hlb, wrap64] <;> omega
    rw [e2]
    have e3 : IntKind.i64.wrap ((f : Int) + ((8 + l.length : Nat) : Int)) = ((f + (8 + l.length) : Nat) : Int) := by rw [wrap64] <;> omega
    rw [e3]
    refine hN (i + 1) _ (by omega) (by omega) ?_
    rw [hs2]; rfl
  · have hie : i = Q.length := by omega
    have hfe : offR Q i = (dsk Q).length := by rw [hie, hofl]
    rw [hfe]
    have hlen2 : ((bts (dsk Q)).length : Int) = ((dsk Q).length : Int) := by rw [hbl]
    have htq : Q.take i = Q := by rw [hie, List.take_length]
    rw [htq]
    generalize hB : bts (dsk Q) = B at *
    conv => whnf
    refine sel_f (by rw [hlen2]; simp) ?_
    conv => whnf
    refine hE _ _ ?_
    conv => whnf
    exact ⟨rfl, rfl, rfl⟩
theorem payloads_ok (Q : List (List Int)) (hQ : okP Q) (hlen : Q.length ≤ 1048576) (hk : (dsk Q).length ≤ 4294967296) (o : Bool) (n e : Nat) (id : Nat) (ob : Obs) (pb : Nat) (hob : ob[id]? = some (logO o (dsk Q) n e)) : Gives envJ 632 [.optr id 0] ob pb (.sl false 0 1 (Q.map pay) [], ob) := by
  have hget : ob[id]? = some [.sl o 0 1 (bts (dsk Q)) [], .int .i64 n, .int .i64 e] := hob
  have g := fun o ob pb => read_ok Q hQ hlen hk o ob pb
  have nr := fun n => pay_noRef n Q
  unfold slB at g
  generalize bts (dsk Q) = B at *
  refine gives_code (f := tf632) rfl ?_
  conv => whnf
  refine ⟨_, _, ⟨hget, rfl, rfl⟩, ?_⟩
  conv => whnf
  refine ⟨_, _, g _ _ _, fun _ => by simp [LV.noRef, LV.noRefs, LV.noRefss, nr], ?_⟩
  conv => whnf
  exact ⟨rfl, rfl, rfl⟩
end Tree.J14
