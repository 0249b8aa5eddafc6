/- TopHolders: the law's walk. -/
import Derived.Test.YtfdamolkgfcoiaaTHEnv
import Derived.Test.YtfdamolkgfcoiaaL15O2
import Derived.Test.YtfdamolkgfcoiaaR16XP
set_option autoImplicit false
set_option linter.unusedVariables false
set_option linter.unusedSimpArgs false
namespace Tree.TH
open Go Tree Tree.R16 Tree.O15
set_option maxHeartbeats 8000000
set_option maxRecDepth 100000
def wh (n m : Int) : Int := if n.tmod m < 0 then n.tmod m + m else n.tmod m
theorem wh_lt (n m : Int) (hm : 0 < m) : 0 ≤ wh n m ∧ wh n m < m := by
  unfold wh
  have h1 := Int.tmod_lt_of_pos n hm
  have h2 : -m < n.tmod m := by
    rcases Int.le_total 0 n with h | h
    · have := Int.tmod_nonneg m h; omega
    · have := Int.tmod_lt_of_pos (-n) hm
      rw [Int.neg_tmod] at this; omega
  split <;> omega
theorem which_ok (n m : Int) (hm : 0 < m) (hm2 : m ≤ 1000) (ob : Obs) (pb : Nat) : Gives envH 592 [.int .i64 n, .int .i64 m] ob pb (.int .i64 (wh n m), ob) := by
  have h := wh_lt n m hm
  unfold wh at *
  refine gives_code (f := TH.tf592) rfl ?_
  conv => whnf
  refine ⟨by omega, ?_⟩
  conv => whnf
  refine sel_split (fun hq => ?_) (fun hq => ?_)
  · conv => whnf
    have hq := of_decide_eq_true hq
    rw [if_pos hq] at h ⊢
    refine ⟨rfl, congrArg (LV.int .i64) ?_, rfl⟩
    exact wrap64 (by omega) (by omega)
  · conv => whnf
    have hq := of_decide_eq_false hq
    rw [if_neg hq]
    exact ⟨rfl, rfl, rfl⟩
def cnt : List Int → Int → Int
  | [], _ => 0
  | z :: r, j => (if j = z then 1 else 0) + cnt r j
theorem cnt_app (z : Int) : ∀ (T : List Int), cnt (T ++ [z]) = upX (cnt T) z 1
  | [] => by funext j; simp only [List.nil_append, cnt, upX]; split <;> omega
  | x :: T => by
    funext j
    have := congrFun (cnt_app z T) j
    simp only [List.cons_append, cnt, upX] at *
    rw [this]
    split <;> split <;> omega
theorem cnt_nn : ∀ (T : List Int) (j : Int), 0 ≤ cnt T j ∧ cnt T j ≤ T.length
  | [], j => by simp [cnt]
  | x :: T, j => by
    have := cnt_nn T j
    simp only [cnt, List.length_cons]; push_cast; split <;> omega
theorem cnt_0 (T : List Int) (h : ∀ j, cnt T j = 0) : T = [] := by
  cases T with
  | nil => rfl
  | cons z r =>
    have h1 := h z
    have h2 := cnt_nn r z
    simp only [cnt] at h1
    rw [if_pos trivial] at h1
    omega
theorem cnt_off (z : Int) (r : List Int) : upX (cnt (z :: r)) z (-1) = cnt r := by
  funext j
  simp only [cnt, upX]
  split <;> omega
theorem len3 : ∀ L : List Int, L.Nodup → (∀ z ∈ L, 1 ≤ z ∧ z ≤ 3) → L.length ≤ 3
  | [], _, _ => by simp
  | [_], _, _ => by simp
  | [_, _], _, _ => by simp
  | [_, _, _], _, _ => by simp
  | a :: b :: c :: d :: r, h, h3 => by
    exfalso
    have ha := h3 a (by simp)
    have hb := h3 b (by simp)
    have hc := h3 c (by simp)
    have hd := h3 d (by simp)
    simp only [List.nodup_cons, List.mem_cons, not_or] at h
    omega
theorem nodup_neH {l : List Int} (h : l.Nodup) {i j : Nat} {x y : Int} (hi : l[i]? = some x) (hj : l[j]? = some y) (hne : j < i) : x ≠ y := by
  obtain ⟨h1, rfl⟩ := List.getElem?_eq_some_iff.1 hi
  obtain ⟨h2, rfl⟩ := List.getElem?_eq_some_iff.1 hj
  exact fun e => List.pairwise_iff_getElem.1 h j i h2 h1 hne e.symm
theorem irow_at {l : List Int} {i : Nat} {x : Int} (h : l[i]? = some x) : (l.map irow)[((i : Nat) : Int).toNat]? = some (irow x) := by
  rw [List.getElem?_map]; show (l[i]?).map _ = _; rw [h]; rfl
theorem Tb.keep {ob ob' : Obs} {id w g : Nat} {c : Int} {W : Wm} {d : Int} {G : List (NV × Int)} (h : Tb ob id w g c W d G) (h1 : ob'[id]? = ob[id]?) (h2 : ob'[w]? = ob[w]?) (h3 : ob'[g]? = ob[g]?) : Tb ob' id w g c W d G :=
  ⟨h1.trans h.t, h2.trans h.hw, h3.trans h.hg, h.wg, h.tw, h.tg⟩
/-- Behind some asks and sendings. -/
structure Hs (y : Int) (i : Nat) (ob : Obs) (T : List Int) (W : Wm) (c : Int) : Prop where
  len : T.length = i
  rng : ∀ z ∈ T, 1 ≤ z ∧ z ≤ 3
  own : Tb ob 2 0 1 c W 0 []
  ref : TB 3 0 ob (dX y (cnt T)) (fun _ => 0) i
  once : onceW W
  nod : (lkW W (0, y)).Nodup
  mem : ∀ z, z ∈ lkW W (0, y) ↔ z ∈ T
theorem Hs.wlen {y : Int} {i : Nat} {ob : Obs} {T : List Int} {W : Wm} {c : Int} (h : Hs y i ob T W c) : (lkW W (0, y)).length ≤ 3 := len3 _ h.nod fun z hz => h.rng z ((h.mem z).1 hz)
/-- One more ask. -/
theorem Hs.ask {y : Int} {i : Nat} {ob : Obs} {T : List Int} {W : Wm} {c : Int} (h : Hs y i ob T W c) (z : Int) (hz : 1 ≤ z ∧ z ≤ 3) :
    ∃ ob' W' c' q, Gives envH 61 [.optr 2 0, nm 0 y, .int .i64 z] ob 0 (.bool q, ob') ∧ Tb ob' 2 0 1 c' W' 0 [] ∧ TB 3 0 ob' (dX y (cnt T)) (fun _ => 0) i ∧ onceW W' ∧ (lkW W' (0, y)).Nodup ∧ ∀ x, x ∈ lkW W' (0, y) ↔ x ∈ T ++ [z] := by
  have hl := h.wlen
  by_cases hm : z ∈ lkW W (0, y)
  · refine ⟨ob, W, c, _, (ask_no h.own (0, y) z (by omega) hm).le le15H, h.own, h.ref, h.once, h.nod, fun x => ?_⟩
    rw [h.mem, List.mem_append, List.mem_singleton]
    have := (h.mem z).1 hm
    constructor
    · exact .inl
    · rintro (hx | rfl)
      · exact hx
      · exact this
  · refine ⟨_, _, _, _, (ask_yes h.own (Nat.le_refl 0) (0, y) z (by omega) hm).le le15H, h.own.setW _ _, h.ref.frameX fun j h1 h2 => List.getElem?_set_ne (by omega), once_set h.once _ _ _, ?_, fun x => ?_⟩
    · rw [lkW_set, if_pos rfl]
      refine List.nodup_append.2 ⟨h.nod, by simp, fun a ha b hb => ?_⟩
      rw [List.mem_singleton] at hb; subst hb
      intro e; subst e; exact hm ha
    · rw [lkW_set, if_pos rfl, List.mem_append, List.mem_append, h.mem]
theorem other_z {z : Int} (hz : 1 ≤ z ∧ z ≤ 3) : otherB 0 4 z = true := by
  unfold otherB isB
  rw [decide_eq_true (by omega : 0 ≤ z), decide_eq_true (by omega : z < 4), show (z != 0) = true from by simp; omega]; rfl
theorem sendH {y : Int} {i : Nat} {ob : Obs} {T : List Int} (h : TB 3 0 ob (dX y (cnt T)) (fun _ => 0) i) (z : Int) (hz : 1 ≤ z ∧ z ≤ 3) :
    ∃ ob', Gives envH 404 [.optr 5 0, .int .i64 z, .sl false 0 2 [nr3 (0, y)] []] ob 0 (.int .i64 0, ob') ∧ TB 3 0 ob' (dX y (cnt (T ++ [z]))) (fun _ => 0) (i + 1) ∧ Keep 3 ob ob' := by
  obtain ⟨ob', s1, s2, s3⟩ := sent_ok h z 0 false [(0, y)] [] (by show 1 ≤ 1099511627776; omega) 0 (by omega)
  have e3 : eSent 0 z [(0, y)] = 0 := by unfold eSent; rw [if_pos (other_z hz)]; rfl
  rw [e3] at s1
  rw [e3, if_pos rfl] at s2
  refine ⟨ob', s1.le le16H, s2.congX (fun q => ?_) (fun _ => rfl), s3⟩
  rw [cnt_app]
  exact dX_up y _ _ _ q
theorem relH {y : Int} {L : Nat} {ob : Obs} {z : Int} {r : List Int} (h : TB 3 0 ob (dX y (cnt (z :: r))) (fun _ => 0) L) (hz : 1 ≤ z ∧ z ≤ 3) :
    ∃ ob', Gives envH 405 [.optr 5 0, .agg (nr3 (0, y)), .int .i64 z, .int .i64 1] ob 0 (.int .i64 0, ob') ∧ TB 3 0 ob' (dX y (cnt r)) (fun _ => 0) (L + 1) ∧ Keep 3 ob ob' := by
  obtain ⟨ob', s1, s2, s3⟩ := released_ok h (0, y) z 1 0 (by omega)
  have e3 : eRel 0 (0, y) z 1 = 0 := by unfold eRel; rw [other_z hz]; rfl
  rw [e3] at s1
  rw [e3, if_pos rfl] at s2
  refine ⟨ob', s1.le le16H, s2.congX (fun q => ?_) (fun _ => rfl), s3⟩
  rw [← cnt_off z r]
  exact dX_up y _ _ _ q
theorem expH {y : Int} {ob : Obs} {T : List Int} {L : Nat} (h : TB 3 0 ob (dX y (cnt T)) (fun _ => 0) L) (hL : L ≤ 1000) (hT : T.length ≤ 1000) (pb : Nat) :
    Gives envH 401 [.optr 5 0, .agg (nr3 (0, y))] ob pb (.bool (decide ((T.length : Int) > 0)), ob) := by
  obtain ⟨q, e1, e2⟩ := exp_tbX h (by omega) (fun j => by have := cnt_nn T j; omega)
  have : q = decide ((T.length : Int) > 0) := by
    cases q with
    | false =>
      have := cnt_0 T (e2.1 rfl)
      subst this; rfl
    | true =>
      refine (decide_eq_true ?_).symm
      cases T with
      | nil => have := e2.2 fun j => rfl; cases this
      | cons z r => simp only [List.length_cons]; omega
  rw [← this]
  exact (e1 pb).le le16H
theorem holders_law (number : Int) (lab : Nat) (l : List Int) (sp : List (List LV)) : ∃ ob', Gives envH 669 [.int .i64 number, .sl false lab 1 (l.map irow) sp] [] 0 (.bool true, ob') := by
  have hlen : (l.map irow).length = l.length := by simp
  have hy := fun ob pb => which_ok number 1000 (by decide) (by decide) ob pb
  generalize wh number 1000 = y at hy
  have g0 := (O15.new_ok [] 0).le le15H
  have t0 := new_tb []
  obtain ⟨ob0, n1, n2, n3, n4⟩ := R16.new_ok 0 rfl ([] ++ [mE 0 (wE [])] ++ [mE 0 (gE [])] ++ [[.mref ([] : Obs).length, .mref (([] : Obs).length + 1)]]) 0 (by simp)
  have h0 : Hs y 0 ob0 [] [] 0 := by
    refine ⟨rfl, fun z hz => (nomatch hz), ?_, ?_, .nil, .nil, fun z => Iff.rfl⟩
    · exact Tb.keep t0 (n3 2 (by simp)) (n3 0 (by simp)) (n3 1 (by simp))
    · refine TB.congX n2 (fun k => ?_) fun _ => rfl
      unfold dX cnt; split <;> rfl
  have n1 := n1.le le16H
  clear n2 n3 n4 t0
  refine gives_codeE (f := TH.tf669) rfl ?_
  conv => whnf
  refine ⟨_, _, g0, fun h => (nomatch h), ?_⟩
  conv => whnf
  refine ⟨_, _, n1, fun h => (nomatch h), ?_⟩
  conv => whnf
  refine ⟨_, _, hy _ _, fun _ => rfl, ?_⟩
  conv => whnf
  refine loop_x (V := fun i : Nat × Obs × List Int × Wm × Int => [(9, .val (.sl true 0 1 (i.2.2.1.map irow) [])), (10, .val (.int .i64 i.1))]) (O := fun i => i.2.1) (m := fun i => l.length - i.1) (P := fun i => i.1 ≤ l.length ∧ i.1 ≤ 50 ∧ Hs y i.1 i.2.1 i.2.2.1 i.2.2.2.1 i.2.2.2.2) ?_ (0, ob0, [], [], 0) ⟨Nat.zero_le _, Nat.zero_le _, h0⟩ rfl
  clear h0 n1 g0
  rintro R ⟨i, ob, T, W, c⟩ ⟨hi, hi5, hH⟩ hN hE hR
  dsimp only at hi hi5 hH
  have e : IntKind.i64.wrap ((i : Int) + 1) = ((i + 1 : Nat) : Int) := by rw [wrap64] <;> omega
  have hTl := hH.len
  have hTm : (T.map irow).length = T.length := by simp
  conv => whnf
  refine sel_split (fun hq1 => ?_) (fun hq1 => ?_)
  · conv => whnf
    have hq1 := of_decide_eq_true hq1
    rw [hlen] at hq1
    refine sel_split (fun hq2 => ?_) (fun hq2 => ?_)
    · conv => whnf
      have hq2 := of_decide_eq_true hq2
      have hi5 : i < 50 := by have : ((i : Nat) : Int) < 50 := hq2; omega
      have hil : i < l.length := by have : ((i : Nat) : Int) < l.length := hq1; omega
      obtain ⟨z0, hz0⟩ : ∃ z, l[i]? = some z := ⟨_, List.getElem?_eq_getElem hil⟩
      have hw := fun ob pb => which_ok z0 3 (by decide) (by decide) ob pb
      have hwr := wh_lt z0 3 (by decide)
      have e1 : IntKind.i64.wrap (1 + wh z0 3) = 1 + wh z0 3 := by rw [wrap64] <;> omega
      generalize wh z0 3 = u at hw hwr e1
      obtain ⟨z, hz⟩ : ∃ z, z = 1 + u := ⟨_, rfl⟩
      rw [← hz] at e1
      have hzr : 1 ≤ z ∧ z ≤ 3 := by omega
      obtain ⟨ob1, W1, c1, q1, a1, a2, a3, a4, a5, a6⟩ := hH.ask z hzr
      obtain ⟨ob2, s1, s2, s3⟩ := sendH a3 z hzr
      have h2 : Hs y (i + 1) ob2 (T ++ [z]) W1 c1 := by
        refine ⟨by simp [hTl], fun x hx => ?_, ?_, s2, a4, a5, a6⟩
        · rcases List.mem_append.1 hx with hx | hx
          · exact hH.rng x hx
          · rw [List.mem_singleton] at hx; subst hx; exact hzr
        · exact Tb.keep a2 (s3.2 2 (by omega) (by omega)) (s3.2 0 (by omega) (by omega)) (s3.2 1 (by omega) (by omega))
      refine ⟨_, ⟨by omega, irow_at hz0⟩, ?_⟩
      conv => whnf
      refine ⟨_, _, hw _ _, fun _ => rfl, ?_⟩
      conv => whnf
      rw [hz.symm, e1]
      refine ⟨(T ++ [z]).map irow, ⟨.inl rfl, ?_, by rw [List.map_append]; rfl⟩, ?_⟩
      · rw [hTm]; show (T.length + 1) * 8 ≤ _; omega
      conv => whnf
      refine ⟨_, _, a1, fun h => (nomatch h), ?_⟩
      conv => whnf
      refine ⟨_, _, s1, fun h => (nomatch h), ?_⟩
      conv => whnf
      refine hN (i + 1, ob2, T ++ [z], W1, c1) _ ⟨by show i + 1 ≤ _; omega, by show i + 1 ≤ _; omega, h2⟩ (by show l.length - (i + 1) < l.length - i; omega) ?_
      rw [← e]; rfl
    · conv => whnf
      refine hE _ _ ?_
      conv => whnf
      clear hN hE hR R
      have hLn := hH.nod
      have hLm := hH.mem
      have hL3 := hH.wlen
      have hrng := hH.rng
      have ht := (tell_ok hH.own (Nat.le_refl 0) (0, y) (by omega)).le le15H
      have own1 : Tb (ob.set 0 (mE c (wE (delW W (0, y))))) 2 0 1 c (delW W (0, y)) 0 [] := hH.own.setW _ _
      have ref1 : TB 3 0 (ob.set 0 (mE c (wE (delW W (0, y))))) (dX y (cnt T)) (fun _ => 0) i := hH.ref.frameX fun j h1 h2 => List.getElem?_set_ne (by omega)
      have hdel : lkW (delW W (0, y)) (0, y) = [] := by rw [lkW_del hH.once, if_pos rfl]
      generalize ob.set 0 (mE c (wE (delW W (0, y)))) = ob1 at ht own1 ref1
      generalize delW W (0, y) = W1 at own1 hdel
      generalize lkW W (0, y) = Lw at hLn hLm hL3 ht
      have hLl : (Lw.map irow).length = Lw.length := by simp
      have hLT : decide ((Lw.length : Int) > 0) = decide ((T.length : Int) > 0) := by
        cases T with
        | nil =>
          cases Lw with
          | nil => rfl
          | cons z r => exact absurd ((hLm z).1 (List.mem_cons_self ..)) (by simp)
        | cons z r =>
          cases Lw with
          | nil => exact absurd ((hLm z).2 (List.mem_cons_self ..)) (by simp)
          | cons z' r' =>
            rw [decide_eq_true (by simp only [List.length_cons]; omega), decide_eq_true (by simp only [List.length_cons]; omega)]
      refine ⟨_, _, ht, fun h => (nomatch h), ?_⟩
      conv => whnf
      refine loop_x (V := fun a : Nat => [(13, .val (.int .i64 a))]) (O := fun _ => ob1) (m := fun a => Lw.length - a) (P := fun a => a ≤ Lw.length) ?_ 0 (Nat.zero_le _) rfl
      intro R a ha hN hE hR
      have ea : IntKind.i64.wrap ((a : Int) + 1) = ((a + 1 : Nat) : Int) := by rw [wrap64] <;> omega
      conv => whnf
      refine sel_split (fun hq3 => ?_) (fun hq3 => ?_)
      · conv => whnf
        have hq3 := of_decide_eq_true hq3
        rw [hLl] at hq3
        have hal : a < Lw.length := by have : ((a : Nat) : Int) < Lw.length := hq3; omega
        obtain ⟨u, hu⟩ : ∃ u, Lw[a]? = some u := ⟨_, List.getElem?_eq_getElem hal⟩
        refine loop_x (V := fun b : Nat => [(14, .val (.int .i64 b))]) (O := fun _ => ob1) (m := fun b => a - b) (P := fun b => b ≤ a) ?_ 0 (Nat.zero_le _) rfl
        intro R2 b hb hN2 hE2 hR2
        have eb : IntKind.i64.wrap ((b : Int) + 1) = ((b + 1 : Nat) : Int) := by rw [wrap64] <;> omega
        conv => whnf
        refine sel_split (fun hq4 => ?_) (fun hq4 => ?_)
        · conv => whnf
          have hba : b < a := by have : ((b : Nat) : Int) < ((a : Nat) : Int) := of_decide_eq_true hq4; omega
          obtain ⟨w, hw⟩ : ∃ w, Lw[b]? = some w := ⟨_, List.getElem?_eq_getElem (show b < Lw.length by omega)⟩
          have hne := nodup_neH hLn hu hw hba
          refine ⟨_, ⟨by omega, irow_at hu⟩, ?_⟩
          conv => whnf
          refine ⟨_, ⟨by omega, irow_at hw⟩, ?_⟩
          conv => whnf
          refine sel_f (by simpa using hne) ?_
          conv => whnf
          refine hN2 (b + 1) _ (by omega) (by omega) ?_
          rw [← eb]; rfl
        · conv => whnf
          refine hE2 _ _ ?_
          conv => whnf
          refine hN (a + 1) _ (by omega) (by omega) ?_
          rw [← ea]; rfl
      · conv => whnf
        refine hE _ _ ?_
        conv => whnf
        clear hN hE hR R
        refine ⟨_, _, expH ref1 (by omega) (by omega) _, fun _ => rfl, ?_⟩
        conv => whnf
        refine sel_f (by rw [hTm]; cases decide ((T.length : Int) > 0) <;> rfl) ?_
        conv => whnf
        refine loop_x (V := fun a : Nat × Obs => [(15, .val (.int .i64 a.1))]) (O := fun a => a.2) (m := fun a => T.length - a.1) (P := fun a => a.1 ≤ T.length ∧ Tb a.2 2 0 1 c W1 0 [] ∧ TB 3 0 a.2 (dX y (cnt (T.drop a.1))) (fun _ => 0) (i + a.1)) ?_ (0, ob1) ⟨Nat.zero_le _, own1, ref1⟩ rfl
        clear own1 ref1 ht
        rintro R ⟨a, ob2⟩ ⟨ha, own2, ref2⟩ hN hE hR
        dsimp only at ha own2 ref2
        have ea : IntKind.i64.wrap ((a : Int) + 1) = ((a + 1 : Nat) : Int) := by rw [wrap64] <;> omega
        conv => whnf
        refine sel_split (fun hq5 => ?_) (fun hq5 => ?_)
        · conv => whnf
          have hq5 := of_decide_eq_true hq5
          rw [hTm] at hq5
          have hal : a < T.length := by have : ((a : Nat) : Int) < T.length := hq5; omega
          obtain ⟨z, hz⟩ : ∃ z, T[a]? = some z := ⟨_, List.getElem?_eq_getElem hal⟩
          have hzr := hrng z (List.mem_of_getElem? hz)
          have hdr : T.drop a = z :: T.drop (a + 1) := by
            rw [List.drop_eq_getElem_cons hal]
            congr 1
            rw [List.getElem?_eq_getElem hal] at hz
            exact Option.some.inj hz
          rw [hdr] at ref2
          obtain ⟨ob3, r1, r2, r3⟩ := relH ref2 hzr
          refine ⟨_, ⟨by omega, irow_at hz⟩, ?_⟩
          conv => whnf
          refine ⟨_, _, r1, fun h => (nomatch h), ?_⟩
          conv => whnf
          refine hN (a + 1, ob3) _ ⟨by show a + 1 ≤ _; omega, Tb.keep own2 (r3.2 2 (by omega) (by omega)) (r3.2 0 (by omega) (by omega)) (r3.2 1 (by omega) (by omega)), r2⟩ (by show T.length - (a + 1) < T.length - a; omega) ?_
          rw [← ea]; rfl
        · conv => whnf
          have hq5 := of_decide_eq_false hq5
          rw [hTm] at hq5
          have hal : a = T.length := by have : ¬ ((a : Nat) : Int) < T.length := hq5; omega
          subst hal
          rw [List.drop_length] at ref2
          refine hE _ _ ?_
          clear hN hE hR R
          have ht2 := (tell_ok own2 (Nat.le_refl 0) (0, y) (by rw [hdel]; simp)).le le15H
          rw [hdel] at ht2
          have ref3 : TB 3 0 (ob2.set 0 (mE c (wE (delW W1 (0, y))))) (dX y (cnt [])) (fun _ => 0) (i + T.length) := ref2.frameX fun j h1 h2 => List.getElem?_set_ne (by omega)
          generalize ob2.set 0 (mE c (wE (delW W1 (0, y)))) = ob3 at ht2 ref3
          obtain ⟨c1, es1, x1, x2, x3, x4⟩ := exports_ok ref3 (by omega)
          obtain rfl := es_nilX x1 (fun k => by rw [x3]; unfold dX cnt; split <;> rfl)
          conv => whnf
          refine sel_t (by rw [hLl]; exact decide_eq_true (by omega)) ?_
          conv => whnf
          refine sel_t (by rw [hLl, hTm, hLT]; exact beq_self_eq_true _) ?_
          conv => whnf
          refine ⟨_, _, ht2, fun h => (nomatch h), ?_⟩
          conv => whnf
          refine ⟨_, _, expH ref3 (by omega) (by show 0 ≤ 1000; omega) _, fun _ => rfl, ?_⟩
          conv => whnf
          refine ⟨_, _, (x4 _).le le16H, fun _ => rfl, ?_⟩
          conv => whnf
          exact ⟨rfl, rfl⟩
  · conv => whnf
    refine hE _ _ ?_
    conv => whnf
    clear hN hE hR R
    have hLn := hH.nod
    have hLm := hH.mem
    have hL3 := hH.wlen
    have hrng := hH.rng
    have ht := (tell_ok hH.own (Nat.le_refl 0) (0, y) (by omega)).le le15H
    have own1 : Tb (ob.set 0 (mE c (wE (delW W (0, y))))) 2 0 1 c (delW W (0, y)) 0 [] := hH.own.setW _ _
    have ref1 : TB 3 0 (ob.set 0 (mE c (wE (delW W (0, y))))) (dX y (cnt T)) (fun _ => 0) i := hH.ref.frameX fun j h1 h2 => List.getElem?_set_ne (by omega)
    have hdel : lkW (delW W (0, y)) (0, y) = [] := by rw [lkW_del hH.once, if_pos rfl]
    generalize ob.set 0 (mE c (wE (delW W (0, y)))) = ob1 at ht own1 ref1
    generalize delW W (0, y) = W1 at own1 hdel
    generalize lkW W (0, y) = Lw at hLn hLm hL3 ht
    have hLl : (Lw.map irow).length = Lw.length := by simp
    have hLT : decide ((Lw.length : Int) > 0) = decide ((T.length : Int) > 0) := by
      cases T with
      | nil =>
        cases Lw with
        | nil => rfl
        | cons z r => exact absurd ((hLm z).1 (List.mem_cons_self ..)) (by simp)
      | cons z r =>
        cases Lw with
        | nil => exact absurd ((hLm z).2 (List.mem_cons_self ..)) (by simp)
        | cons z' r' =>
          rw [decide_eq_true (by simp only [List.length_cons]; omega), decide_eq_true (by simp only [List.length_cons]; omega)]
    refine ⟨_, _, ht, fun h => (nomatch h), ?_⟩
    conv => whnf
    refine loop_x (V := fun a : Nat => [(13, .val (.int .i64 a))]) (O := fun _ => ob1) (m := fun a => Lw.length - a) (P := fun a => a ≤ Lw.length) ?_ 0 (Nat.zero_le _) rfl
    intro R a ha hN hE hR
    have ea : IntKind.i64.wrap ((a : Int) + 1) = ((a + 1 : Nat) : Int) := by rw [wrap64] <;> omega
    conv => whnf
    refine sel_split (fun hq3 => ?_) (fun hq3 => ?_)
    · conv => whnf
      have hq3 := of_decide_eq_true hq3
      rw [hLl] at hq3
      have hal : a < Lw.length := by have : ((a : Nat) : Int) < Lw.length := hq3; omega
      obtain ⟨u, hu⟩ : ∃ u, Lw[a]? = some u := ⟨_, List.getElem?_eq_getElem hal⟩
      refine loop_x (V := fun b : Nat => [(14, .val (.int .i64 b))]) (O := fun _ => ob1) (m := fun b => a - b) (P := fun b => b ≤ a) ?_ 0 (Nat.zero_le _) rfl
      intro R2 b hb hN2 hE2 hR2
      have eb : IntKind.i64.wrap ((b : Int) + 1) = ((b + 1 : Nat) : Int) := by rw [wrap64] <;> omega
      conv => whnf
      refine sel_split (fun hq4 => ?_) (fun hq4 => ?_)
      · conv => whnf
        have hba : b < a := by have : ((b : Nat) : Int) < ((a : Nat) : Int) := of_decide_eq_true hq4; omega
        obtain ⟨w, hw⟩ : ∃ w, Lw[b]? = some w := ⟨_, List.getElem?_eq_getElem (show b < Lw.length by omega)⟩
        have hne := nodup_neH hLn hu hw hba
        refine ⟨_, ⟨by omega, irow_at hu⟩, ?_⟩
        conv => whnf
        refine ⟨_, ⟨by omega, irow_at hw⟩, ?_⟩
        conv => whnf
        refine sel_f (by simpa using hne) ?_
        conv => whnf
        refine hN2 (b + 1) _ (by omega) (by omega) ?_
        rw [← eb]; rfl
      · conv => whnf
        refine hE2 _ _ ?_
        conv => whnf
        refine hN (a + 1) _ (by omega) (by omega) ?_
        rw [← ea]; rfl
    · conv => whnf
      refine hE _ _ ?_
      conv => whnf
      clear hN hE hR R
      refine ⟨_, _, expH ref1 (by omega) (by omega) _, fun _ => rfl, ?_⟩
      conv => whnf
      refine sel_f (by rw [hTm]; cases decide ((T.length : Int) > 0) <;> rfl) ?_
      conv => whnf
      refine loop_x (V := fun a : Nat × Obs => [(15, .val (.int .i64 a.1))]) (O := fun a => a.2) (m := fun a => T.length - a.1) (P := fun a => a.1 ≤ T.length ∧ Tb a.2 2 0 1 c W1 0 [] ∧ TB 3 0 a.2 (dX y (cnt (T.drop a.1))) (fun _ => 0) (i + a.1)) ?_ (0, ob1) ⟨Nat.zero_le _, own1, ref1⟩ rfl
      clear own1 ref1 ht
      rintro R ⟨a, ob2⟩ ⟨ha, own2, ref2⟩ hN hE hR
      dsimp only at ha own2 ref2
      have ea : IntKind.i64.wrap ((a : Int) + 1) = ((a + 1 : Nat) : Int) := by rw [wrap64] <;> omega
      conv => whnf
      refine sel_split (fun hq5 => ?_) (fun hq5 => ?_)
      · conv => whnf
        have hq5 := of_decide_eq_true hq5
        rw [hTm] at hq5
        have hal : a < T.length := by have : ((a : Nat) : Int) < T.length := hq5; omega
        obtain ⟨z, hz⟩ : ∃ z, T[a]? = some z := ⟨_, List.getElem?_eq_getElem hal⟩
        have hzr := hrng z (List.mem_of_getElem? hz)
        have hdr : T.drop a = z :: T.drop (a + 1) := by
          rw [List.drop_eq_getElem_cons hal]
          congr 1
          rw [List.getElem?_eq_getElem hal] at hz
          exact Option.some.inj hz
        rw [hdr] at ref2
        obtain ⟨ob3, r1, r2, r3⟩ := relH ref2 hzr
        refine ⟨_, ⟨by omega, irow_at hz⟩, ?_⟩
        conv => whnf
        refine ⟨_, _, r1, fun h => (nomatch h), ?_⟩
        conv => whnf
        refine hN (a + 1, ob3) _ ⟨by show a + 1 ≤ _; omega, Tb.keep own2 (r3.2 2 (by omega) (by omega)) (r3.2 0 (by omega) (by omega)) (r3.2 1 (by omega) (by omega)), r2⟩ (by show T.length - (a + 1) < T.length - a; omega) ?_
        rw [← ea]; rfl
      · conv => whnf
        have hq5 := of_decide_eq_false hq5
        rw [hTm] at hq5
        have hal : a = T.length := by have : ¬ ((a : Nat) : Int) < T.length := hq5; omega
        subst hal
        rw [List.drop_length] at ref2
        refine hE _ _ ?_
        clear hN hE hR R
        have ht2 := (tell_ok own2 (Nat.le_refl 0) (0, y) (by rw [hdel]; simp)).le le15H
        rw [hdel] at ht2
        have ref3 : TB 3 0 (ob2.set 0 (mE c (wE (delW W1 (0, y))))) (dX y (cnt [])) (fun _ => 0) (i + T.length) := ref2.frameX fun j h1 h2 => List.getElem?_set_ne (by omega)
        generalize ob2.set 0 (mE c (wE (delW W1 (0, y)))) = ob3 at ht2 ref3
        obtain ⟨c1, es1, x1, x2, x3, x4⟩ := exports_ok ref3 (by omega)
        obtain rfl := es_nilX x1 (fun k => by rw [x3]; unfold dX cnt; split <;> rfl)
        conv => whnf
        refine sel_t (by rw [hLl]; exact decide_eq_true (by omega)) ?_
        conv => whnf
        refine sel_t (by rw [hLl, hTm, hLT]; exact beq_self_eq_true _) ?_
        conv => whnf
        refine ⟨_, _, ht2, fun h => (nomatch h), ?_⟩
        conv => whnf
        refine ⟨_, _, expH ref3 (by omega) (by show 0 ≤ 1000; omega) _, fun _ => rfl, ?_⟩
        conv => whnf
        refine ⟨_, _, (x4 _).le le16H, fun _ => rfl, ?_⟩
        conv => whnf
        exact ⟨rfl, rfl⟩
end Tree.TH
