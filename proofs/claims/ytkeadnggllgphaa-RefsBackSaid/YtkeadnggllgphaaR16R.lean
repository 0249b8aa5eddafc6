/- Package refs: what deeds make of a table (run); two rows of counts compared. -/
import Derived.Test.YtkeadnggllgphaaR16Q
import Derived.Test.YtkeadnggllgphaaTW
set_option autoImplicit false
set_option linter.unusedVariables false
set_option linter.unusedSimpArgs false
namespace Tree.R16
open Go Tree
set_option maxHeartbeats 8000000
set_option maxRecDepth 100000
structure Dd where
  kind : Int
  node : Int
  times : Int
  lab : Nat
  vs : List NV3
  sp : List (List LV)
def Dd.row (d : Dd) : List LV := [.int .i64 d.kind, .int .i64 d.node, .int .i64 d.times, .sl false d.lab 2 (d.vs.map nr3) d.sp]
def gotD (me : Int) (vs : List NV3) (G : K3 → Int) : K3 → Int := vs.foldl (fun G x => if x.1 = me then G else upD G (x.1, x.2, x.1) 1) G
theorem got_okR {n : Nat} {me : Int} {ob : Obs} {D G : K3 → Int} {L : Nat} (h : TB n me ob D G L) (lab : Nat) (o : Bool) (vs : List NV3) (sp : List (List LV)) (hl : vs.length ≤ 1099511627776) (pb : Nat) (hpb : pb ≤ n) :
    ∃ ob', Gives env16z 406 [.optr (n + 2) 0, .sl o lab 2 (vs.map nr3) sp] ob pb (.int .i64 (if vs.any (fun x => !isB 4 x.1) then 4 else 0), ob') ∧ TB n me ob' D (if vs.any (fun x => !isB 4 x.1) then G else gotD me vs G) (L + vs.length) ∧ Keep n ob ob' := by
  have hr := h.row
  have g2 := fun pb => any174 424 0 (n + 2) lab false vs sp (fun x => !isB 4 x.1) (by omega) ob (fun x pb => cl424 x 0 (n + 2) me 4 _ _ ob pb hr) pb
  have hlen : (vs.map nr3).length = vs.length := by simp
  have key : ∃ r ob', (r = .int .i64 (if vs.any (fun x => !isB 4 x.1) then 4 else 0) ∧ TB n me ob' D (if vs.any (fun x => !isB 4 x.1) then G else gotD me vs G) (L + vs.length) ∧ Keep n ob ob') ∧ Gives env16z 406 [.optr (n + 2) 0, .sl o lab 2 (vs.map nr3) sp] ob pb (r, ob') := by
    refine gives_codeQ (f := tf406) rfl ?_
    conv => whnf
    refine ⟨_, _, g2 _, fun _ => rfl, ?_⟩
    conv => whnf
    refine sel_split (fun ha => ?_) (fun ha => ?_)
    · conv => whnf
      rw [ha, if_pos rfl, if_pos rfl]
      exact ⟨rfl, rfl, h.mono (by omega), Keep.refl _ _⟩
    · conv => whnf
      have hin : ∀ x ∈ vs, isB 4 x.1 = true := by
        intro x hx
        have := List.any_eq_false.1 ha x hx
        simpa using this
      rw [ha, if_neg (by decide), if_neg (by decide)]
      refine loop_x (V := fun i : Nat × Obs => [(16, .val (.int .i64 i.1))]) (O := fun i => i.2) (m := fun i => vs.length - i.1) (P := fun i => i.1 ≤ vs.length ∧ TB n me i.2 D (gotD me (vs.take i.1) G) (L + i.1) ∧ Keep n ob i.2) ?_ (0, ob) ⟨Nat.zero_le _, h, Keep.refl _ _⟩ rfl
      rintro R ⟨i, ob1⟩ ⟨hi, hT, hk⟩ hN hE hR
      dsimp only at hi hT hk
      have hri := hT.row
      conv => whnf
      refine sel_split (fun hq => ?_) (fun hq => ?_)
      · conv => whnf
        have hq := of_decide_eq_true hq
        rw [hlen] at hq
        obtain ⟨x, hx⟩ : ∃ x, vs[i]? = some x := ⟨_, List.getElem?_eq_getElem (show i < vs.length by omega)⟩
        have e : IntKind.i64.wrap ((i : Int) + 1) = ((i + 1 : Nat) : Int) := by rw [wrap64] <;> omega
        have eG : gotD me (vs.take (i + 1)) G = if x.1 = me then gotD me (vs.take i) G else upD (gotD me (vs.take i) G) (x.1, x.2, x.1) 1 := by
          unfold gotD; rw [List.take_add_one, hx]; simp [List.foldl_append]
        refine ⟨_, ⟨by omega, row3 hx⟩, ?_⟩
        conv => whnf
        refine ⟨_, _, ⟨hri, rfl, rfl⟩, ?_⟩
        conv => whnf
        refine sel_split (fun h2 => ?_) (fun h2 => ?_)
        · conv => whnf
          have h2 : ¬ x.1 = me := by simpa using h2
          rw [if_neg h2] at eG
          obtain ⟨ob2, s1, s2, s3⟩ := hT.addI (x.1, x.2, x.1) 1 (is_node (hin x (List.mem_of_getElem? hx)))
          rw [← eG] at s2
          refine ⟨_, _, ⟨hri, rfl, rfl⟩, ?_⟩
          conv => whnf
          refine ⟨_, _, s1 _ hpb, fun h => (nomatch h), ?_⟩
          conv => whnf
          refine hN (i + 1, ob2) _ ⟨by show i + 1 ≤ _; omega, s2, hk.trans s3⟩ (by show vs.length - (i + 1) < vs.length - i; omega) ?_
          rw [← e]; rfl
        · conv => whnf
          have h2 : x.1 = me := by simpa using h2
          rw [if_pos h2] at eG
          refine hN (i + 1, ob1) _ ⟨by show i + 1 ≤ _; omega, by show TB n me ob1 D (gotD me (vs.take (i + 1)) G) _; rw [eG]; exact hT.mono (by show L + i ≤ L + (i + 1); omega), hk⟩ (by show vs.length - (i + 1) < vs.length - i; omega) ?_
          rw [← e]; rfl
      · conv => whnf
        have hq := of_decide_eq_false hq
        rw [hlen] at hq
        have : i = vs.length := by omega
        subst this
        rw [List.take_length] at hT
        refine hE _ _ ?_
        conv => whnf
        exact ⟨rfl, rfl, hT, hk⟩
  obtain ⟨r, ob', ⟨rfl, h1, h2⟩, h3⟩ := key
  exact ⟨ob', h3, h1, h2⟩
end Tree.R16
