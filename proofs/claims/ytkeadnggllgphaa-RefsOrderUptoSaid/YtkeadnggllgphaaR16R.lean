/- Package refs: what deeds make of a table (run); two rows of counts compared. -/
import Derived.Test.YtkeadnggllgphaaR16Q
import Derived.Test.YtkeadnggllgphaaTW
set_option autoImplicit false
set_option linter.unusedVariables false
set_option linter.unusedSimpArgs false
namespace Tree.R16
open Go Tree
set_option maxHeartbeats 8000000
set_option maxRecDepth 100000
structure Dd where
  kind : Int
  node : Int
  times : Int
  lab : Nat
  vs : List NV3
  sp : List (List LV)
def Dd.row (d : Dd) : List LV := [.int .i64 d.kind, .int .i64 d.node, .int .i64 d.times, .sl false d.lab 2 (d.vs.map nr3) d.sp]
def dD (D : K3 → Int) (d : Dd) : K3 → Int :=
  if d.kind = 0 then (if eSent 0 d.node d.vs = 0 then dSent d.node d.vs D else D)
  else if d.kind = 1 then (if eAdded 0 (first3 d.vs) d.node = 0 ∧ d.node ≠ 0 then upD D ((first3 d.vs).1, (first3 d.vs).2, d.node) 1 else D)
  else if d.kind = 2 then (if eRel 0 (first3 d.vs) d.node d.times = 0 then upD D ((first3 d.vs).1, (first3 d.vs).2, d.node) (-d.times) else D)
  else D
def wgt (l : List Dd) : Nat := (l.map fun d => d.vs.length + 1).sum
theorem wgt_succ {l : List Dd} {i : Nat} {d : Dd} (h : l[i]? = some d) : wgt (l.take (i + 1)) = wgt (l.take i) + (d.vs.length + 1) := by
  unfold wgt; rw [List.take_add_one, h]; simp
theorem wgt_take : ∀ (l : List Dd) (i : Nat), wgt (l.take i) ≤ wgt l
  | [], i => by simp
  | d :: l, 0 => by simp [wgt]
  | d :: l, i + 1 => by
    have := wgt_take l i
    simp only [wgt, List.take_succ_cons, List.map_cons, List.sum_cons] at *
    omega
theorem wgt_len : ∀ (l : List Dd), l.length ≤ wgt l
  | [] => by simp [wgt]
  | d :: l => by
    have := wgt_len l
    simp only [wgt, List.map_cons, List.sum_cons, List.length_cons] at *
    omega
theorem dD_succ {l : List Dd} {i : Nat} {d : Dd} (h : l[i]? = some d) (D : K3 → Int) : (l.take (i + 1)).foldl dD D = dD ((l.take i).foldl dD D) d := by
  rw [List.take_add_one, h]; simp [List.foldl_append]
theorem got_ok {n : Nat} {me : Int} {ob : Obs} {D G : K3 → Int} {L : Nat} (h : TB n me ob D G L) (lab : Nat) (o : Bool) (vs : List NV3) (sp : List (List LV)) (hl : vs.length ≤ 1099511627776) (pb : Nat) (hpb : pb ≤ n) :
    ∃ ob' r G', Gives env16z 406 [.optr (n + 2) 0, .sl o lab 2 (vs.map nr3) sp] ob pb (.int .i64 r, ob') ∧ TB n me ob' D G' (L + vs.length) ∧ Keep n ob ob' := by
  have hr := h.row
  have g2 := fun pb => any174 424 0 (n + 2) lab false vs sp (fun x => !isB 4 x.1) (by omega) ob (fun x pb => cl424 x 0 (n + 2) me 4 _ _ ob pb hr) pb
  have hlen : (vs.map nr3).length = vs.length := by simp
  have key : ∃ r ob', (∃ z G', r = .int .i64 z ∧ TB n me ob' D G' (L + vs.length) ∧ Keep n ob ob') ∧ Gives env16z 406 [.optr (n + 2) 0, .sl o lab 2 (vs.map nr3) sp] ob pb (r, ob') := by
    refine gives_codeQ (f := tf406) rfl ?_
    conv => whnf
    refine ⟨_, _, g2 _, fun _ => rfl, ?_⟩
    conv => whnf
    refine sel_split (fun ha => ?_) (fun ha => ?_)
    · conv => whnf
      exact ⟨rfl, _, G, rfl, h.mono (by omega), Keep.refl _ _⟩
    · conv => whnf
      have hin : ∀ x ∈ vs, isB 4 x.1 = true := by
        intro x hx
        have := List.any_eq_false.1 ha x hx
        simpa using this
      refine loop_x (V := fun i : Nat × Obs × (K3 → Int) => [(16, .val (.int .i64 i.1))]) (O := fun i => i.2.1) (m := fun i => vs.length - i.1) (P := fun i => i.1 ≤ vs.length ∧ TB n me i.2.1 D i.2.2 (L + i.1) ∧ Keep n ob i.2.1) ?_ (0, ob, G) ⟨Nat.zero_le _, h, Keep.refl _ _⟩ rfl
      rintro R ⟨i, ob1, G1⟩ ⟨hi, hT, hk⟩ hN hE hR
      dsimp only at hi hT hk
      have hri := hT.row
      conv => whnf
      refine sel_split (fun hq => ?_) (fun hq => ?_)
      · conv => whnf
        have hq := of_decide_eq_true hq
        rw [hlen] at hq
        obtain ⟨x, hx⟩ : ∃ x, vs[i]? = some x := ⟨_, List.getElem?_eq_getElem (show i < vs.length by omega)⟩
        have e : IntKind.i64.wrap ((i : Int) + 1) = ((i + 1 : Nat) : Int) := by rw [wrap64] <;> omega
        refine ⟨_, ⟨by omega, row3 hx⟩, ?_⟩
        conv => whnf
        refine ⟨_, _, ⟨hri, rfl, rfl⟩, ?_⟩
        conv => whnf
        refine sel_split (fun h2 => ?_) (fun h2 => ?_)
        · conv => whnf
          obtain ⟨ob2, s1, s2, s3⟩ := hT.addI (x.1, x.2, x.1) 1 (is_node (hin x (List.mem_of_getElem? hx)))
          refine ⟨_, _, ⟨hri, rfl, rfl⟩, ?_⟩
          conv => whnf
          refine ⟨_, _, s1 _ hpb, fun h => (nomatch h), ?_⟩
          conv => whnf
          refine hN (i + 1, ob2, _) _ ⟨by show i + 1 ≤ _; omega, s2, hk.trans s3⟩ (by show vs.length - (i + 1) < vs.length - i; omega) ?_
          rw [← e]; rfl
        · conv => whnf
          refine hN (i + 1, ob1, G1) _ ⟨by show i + 1 ≤ _; omega, hT.mono (by omega), hk⟩ (by show vs.length - (i + 1) < vs.length - i; omega) ?_
          rw [← e]; rfl
      · conv => whnf
        have hq := of_decide_eq_false hq
        rw [hlen] at hq
        have : i = vs.length := by omega
        subst this
        refine hE _ _ ?_
        conv => whnf
        exact ⟨rfl, _, G1, rfl, hT, hk⟩
  obtain ⟨r, ob', ⟨z, G', rfl, h1, h2⟩, h3⟩ := key
  exact ⟨ob', z, G', h3, h1, h2⟩
theorem drow {l : List Dd} {i : Nat} {d : Dd} (h : l[i]? = some d) : (l.map Dd.row)[((i : Nat) : Int).toNat]? = some d.row := by
  rw [List.getElem?_map]; show (l[i]?).map _ = _; rw [h]; rfl
theorem run_ok (o : Bool) (lab : Nat) (l : List Dd) (sp : List (List LV)) (hl : wgt l ≤ 1099511627776) (ob : Obs) (pb : Nat) (hpb : pb ≤ ob.length) :
    ∃ ob' G, Gives env16z 396 [.sl o lab 4 (l.map Dd.row) sp] ob pb (.optr (ob.length + 2) 0, ob') ∧ TB ob.length 0 ob' (l.foldl dD fun _ => 0) G (wgt l) ∧ ob.length ≤ ob'.length := by
  obtain ⟨ob0, n1, n2, n3, n4⟩ := new_ok 0 rfl ob pb hpb
  have hlen : (l.map Dd.row).length = l.length := by simp
  have hll := wgt_len l
  have key : ∃ r ob', (r = .optr (ob.length + 2) 0 ∧ ∃ G, TB ob.length 0 ob' (l.foldl dD fun _ => 0) G (wgt l) ∧ ob.length ≤ ob'.length) ∧ Gives env16z 396 [.sl o lab 4 (l.map Dd.row) sp] ob pb (r, ob') := by
    refine gives_codeQ (f := tf396) rfl ?_
    conv => whnf
    refine ⟨_, _, n1, fun h => (nomatch h), ?_⟩
    conv => whnf
    refine loop_x (V := fun i : Nat × Obs × (K3 → Int) => [(5, .val (.int .i64 i.1))]) (O := fun i => i.2.1) (m := fun i => l.length - i.1) (P := fun i => i.1 ≤ l.length ∧ TB ob.length 0 i.2.1 ((l.take i.1).foldl dD fun _ => 0) i.2.2 (wgt (l.take i.1)) ∧ ob.length ≤ i.2.1.length) ?_ (0, ob0, fun _ => 0) ⟨Nat.zero_le _, n2, by show ob.length ≤ ob0.length; omega⟩ rfl
    rintro R ⟨i, ob1, G⟩ ⟨hi, hT, hle⟩ hN hE hR
    dsimp only at hi hT hle
    have hw := wgt_take l i
    conv => whnf
    refine sel_split (fun hq => ?_) (fun hq => ?_)
    · conv => whnf
      have hq := of_decide_eq_true hq
      rw [hlen] at hq
      obtain ⟨d, hd⟩ : ∃ d, l[i]? = some d := ⟨_, List.getElem?_eq_getElem (show i < l.length by omega)⟩
      have ew := wgt_succ hd
      have eD := dD_succ hd fun _ => 0
      have hw2 := wgt_take l (i + 1)
      have e : IntKind.i64.wrap ((i : Int) + 1) = ((i + 1 : Nat) : Int) := by rw [wrap64] <;> omega
      have hrow := drow hd
      obtain ⟨kind, node, times, lb, vs, s⟩ := d
      simp only [Dd.row, dD] at hrow eD ew
      have gf := fun ob pb => first_ok lb false vs s ob pb
      refine ⟨_, ⟨by omega, hrow⟩, ?_⟩
      conv => whnf
      refine sel_split (fun h0 => ?_) (fun h0 => ?_)
      · conv => whnf
        have h0 : kind = 0 := by simpa using h0
        rw [if_pos h0] at eD
        obtain ⟨ob2, s1, s2, s3⟩ := sent_ok hT node lb false vs s (by omega) pb hpb
        refine ⟨_, _, s1, fun h => (nomatch h), ?_⟩
        conv => whnf
        refine hN (i + 1, ob2, G) _ ⟨by show i + 1 ≤ _; omega, ?_, by show ob.length ≤ ob2.length; rw [s3.1]; exact hle⟩ (by show l.length - (i + 1) < l.length - i; omega) ?_
        · show TB _ 0 ob2 _ G (wgt (l.take (i + 1)))
          rw [eD]; exact s2.mono (by omega)
        · rw [← e]; rfl
      · conv => whnf
        have h0 : ¬ kind = 0 := by simpa using h0
        rw [if_neg h0] at eD
        refine sel_split (fun h1 => ?_) (fun h1 => ?_)
        · conv => whnf
          have h1 : kind = 1 := by simpa using h1
          rw [if_pos h1] at eD
          obtain ⟨ob2, s1, s2, s3⟩ := added_ok hT (first3 vs) node pb hpb
          refine ⟨_, _, gf _ _, fun _ => rfl, ?_⟩
          conv => whnf
          refine ⟨_, _, s1, fun h => (nomatch h), ?_⟩
          conv => whnf
          refine hN (i + 1, ob2, G) _ ⟨by show i + 1 ≤ _; omega, ?_, by show ob.length ≤ ob2.length; rw [s3.1]; exact hle⟩ (by show l.length - (i + 1) < l.length - i; omega) ?_
          · show TB _ 0 ob2 _ G (wgt (l.take (i + 1)))
            rw [eD]; exact s2.mono (by omega)
          · rw [← e]; rfl
        · conv => whnf
          have h1 : ¬ kind = 1 := by simpa using h1
          rw [if_neg h1] at eD
          refine sel_split (fun h2 => ?_) (fun h2 => ?_)
          · conv => whnf
            have h2 : kind = 2 := by simpa using h2
            rw [if_pos h2] at eD
            obtain ⟨ob2, s1, s2, s3⟩ := released_ok hT (first3 vs) node times pb hpb
            refine ⟨_, _, gf _ _, fun _ => rfl, ?_⟩
            conv => whnf
            refine ⟨_, _, s1, fun h => (nomatch h), ?_⟩
            conv => whnf
            refine hN (i + 1, ob2, G) _ ⟨by show i + 1 ≤ _; omega, ?_, by show ob.length ≤ ob2.length; rw [s3.1]; exact hle⟩ (by show l.length - (i + 1) < l.length - i; omega) ?_
            · show TB _ 0 ob2 _ G (wgt (l.take (i + 1)))
              rw [eD]; exact s2.mono (by omega)
            · rw [← e]; rfl
          · conv => whnf
            have h2 : ¬ kind = 2 := by simpa using h2
            rw [if_neg h2] at eD
            refine sel_split (fun h3 => ?_) (fun h3 => ?_)
            · conv => whnf
              obtain ⟨ob2, r, G2, s1, s2, s3⟩ := got_ok hT lb false vs s (by omega) pb hpb
              refine ⟨_, _, s1, fun h => (nomatch h), ?_⟩
              conv => whnf
              refine hN (i + 1, ob2, G2) _ ⟨by show i + 1 ≤ _; omega, ?_, by show ob.length ≤ ob2.length; rw [s3.1]; exact hle⟩ (by show l.length - (i + 1) < l.length - i; omega) ?_
              · show TB _ 0 ob2 _ G2 (wgt (l.take (i + 1)))
                rw [eD]; exact s2.mono (by omega)
              · rw [← e]; rfl
            · conv => whnf
              refine sel_split (fun h4 => ?_) (fun h4 => ?_)
              · conv => whnf
                obtain ⟨ob2, s1, s2, s3⟩ := free_ok hT (first3 vs) pb hpb
                generalize (if 0 < IntKind.i64.wrap (G ((first3 vs).1, (first3 vs).2, (first3 vs).1)) then offD G ((first3 vs).1, (first3 vs).2, (first3 vs).1) else G) = G2 at s2
                refine ⟨_, _, gf _ _, fun _ => rfl, ?_⟩
                conv => whnf
                refine ⟨_, _, s1, fun h => (nomatch h), ?_⟩
                conv => whnf
                refine hN (i + 1, ob2, G2) _ ⟨by show i + 1 ≤ _; omega, ?_, by show ob.length ≤ ob2.length; rw [s3.1]; exact hle⟩ (by show l.length - (i + 1) < l.length - i; omega) ?_
                · show TB _ 0 ob2 _ G2 (wgt (l.take (i + 1)))
                  rw [eD]; exact s2.mono (by omega)
                · rw [← e]; rfl
              · conv => whnf
                refine hN (i + 1, ob1, G) _ ⟨by show i + 1 ≤ _; omega, ?_, hle⟩ (by show l.length - (i + 1) < l.length - i; omega) ?_
                · show TB _ 0 ob1 _ G (wgt (l.take (i + 1)))
                  rw [eD]; exact hT.mono (by omega)
                · rw [← e]; rfl
    · conv => whnf
      have hq := of_decide_eq_false hq
      rw [hlen] at hq
      have : i = l.length := by omega
      subst this
      rw [List.take_length] at hT
      refine hE _ _ ?_
      conv => whnf
      exact ⟨rfl, rfl, G, hT, hle⟩
  obtain ⟨r, ob', ⟨rfl, G, h1, h2⟩, h3⟩ := key
  exact ⟨ob', G, h3, h1, h2⟩
end Tree.R16
