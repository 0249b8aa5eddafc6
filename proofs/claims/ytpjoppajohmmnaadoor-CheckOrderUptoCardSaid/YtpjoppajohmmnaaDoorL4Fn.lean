/- Layer 4: the first element at which a function holds. -/
import Derived.Test.YtpjoppajohmmnaaDoorL4Reach
import Derived.Test.YtpjoppajohmmnaaDoorL1Vars
set_option autoImplicit false
set_option linter.unusedVariables false
set_option linter.unusedSimpArgs false
namespace Tree
open Go
set_option maxHeartbeats 4000000
set_option maxRecDepth 100000
/-- The number of the first one with p, or -1. -/
def FirstJ {α : Type} (xs : List α) (p : α → Prop) (j : Int) : Prop := (∃ (i : Nat) (x : α), j = i ∧ xs[i]? = some x ∧ p x ∧ ∀ (k : Nat) y, k < i → xs[k]? = some y → ¬ p y) ∨ j = -1 ∧ ∀ x ∈ xs, ¬ p x
theorem firstJ {α : Type} (xs : List α) (p : α → Prop) : ∃ j, FirstJ xs p j := by
  by_cases h : ∃ c ∈ xs, p c
  · have : ∃ (i : Nat) (c : α), xs[i]? = some c ∧ p c ∧ ∀ (k : Nat) d, k < i → xs[k]? = some d → ¬ p d := by
      apply Classical.byContradiction
      intro hn
      have all : ∀ n : Nat, ∀ (k : Nat) d, k < n → xs[k]? = some d → ¬ p d := by
        intro n
        induction n with
        | zero => intro k d hk; omega
        | succ n ih =>
          intro k d hk hd hp
          by_cases hkn : k < n
          · exact ih k d hkn hd hp
          · have : k = n := by omega
            subst this
            exact hn ⟨k, d, hd, hp, ih⟩
      obtain ⟨c, hc, hp⟩ := h
      obtain ⟨i, hi, e⟩ := List.getElem_of_mem hc
      exact all (i + 1) i c (by omega) (by rw [List.getElem?_eq_getElem hi, e]) hp
    obtain ⟨i, c, h1, h2, h3⟩ := this
    exact ⟨i, .inl ⟨i, c, rfl, h1, h2, h3⟩⟩
  · exact ⟨-1, .inr ⟨rfl, fun x hx hp => h ⟨x, hx, hp⟩⟩⟩
theorem FirstJ.at {α : Type} {xs : List α} {p : α → Prop} {j : Int} (h : FirstJ xs p j) {i : Nat} {x : α} (hx : xs[i]? = some x) (hp : p x) (hn : ∀ (k : Nat) y, k < i → xs[k]? = some y → ¬ p y) : j = i := by
  rcases h with ⟨i', x', rfl, h1, h2, h3⟩ | ⟨rfl, h1⟩
  · rcases Nat.lt_trichotomy i i' with h7 | h7 | h7
    · exact absurd hp (h3 i x h7 hx)
    · rw [h7]
    · exact absurd h2 (hn i' x' h7 h1)
  · exact absurd hp (h1 x (List.mem_of_getElem? hx))
theorem FirstJ.none {α : Type} {xs : List α} {p : α → Prop} {j : Int} (h : FirstJ xs p j) (hn : ∀ (k : Nat) y, k < xs.length → xs[k]? = some y → ¬ p y) : j = -1 := by
  rcases h with ⟨i', x', rfl, h1, h2, h3⟩ | ⟨rfl, h1⟩
  · exact absurd h2 (hn i' x' (List.getElem?_eq_some_iff.1 h1).1 h1)
  · rfl
theorem FirstJ.ge {α : Type} {xs : List α} {p : α → Prop} {j : Int} (h : FirstJ xs p j) : j ≥ 0 ↔ ∃ x ∈ xs, p x := by
  rcases h with ⟨i', x', rfl, h1, h2, h3⟩ | ⟨rfl, h1⟩
  · exact ⟨fun _ => ⟨x', List.mem_of_getElem? h1, h2⟩, fun _ => by omega⟩
  · exact ⟨fun h => by omega, fun ⟨x, hx, hp⟩ => absurd hp (h1 x hx)⟩
def SIx (v x : LV) (n : Nat) (i : Int) (ob : Obs) : WSt := ⟨.val v :: .val x :: List.replicate 5 (.val .undef) ++ .val (.int .i64 n) :: .val (.int .i64 i) :: List.replicate 10 (.val .undef), ob, []⟩
theorem idx296_ok (g  lab : Nat) (xs : List Cl) (sp : List (List LV)) (p : Cl → Prop) (hl : xs.length ≤ 4611686018427387904) (hg : ∀ x ∈ xs, ∀ ob pb (r : Bool), (r = true ↔ p x) → Gives env4 g (.agg x.row :: []) ob pb (.bool r, ob)) (ob : Obs) (pb : Nat) :
    ∃ j : Int, FirstJ xs p j ∧ Gives env4 296 [slC false lab xs sp, .fn g []] ob pb (.int .i64 j, ob) := by
  obtain ⟨j, hj⟩ := firstJ xs p
  refine ⟨j, hj, ?_⟩
  have hlen : (xs.map Cl.row).length = xs.length := by simp
  refine gives_code (f := tf296) rfl ?_
  conv => whnf
  refine loop_abs (S := fun i : Nat => SIx (slC false lab xs sp) (.fn g []) (xs.map Cl.row).length i ob) (m := fun i => xs.length - i) (P := fun i => i ≤ xs.length ∧ ∀ (k : Nat) d, k < i → xs[k]? = some d → ¬ p d) ?_ 0 ⟨Nat.zero_le _, fun k s h => by omega⟩ rfl
  rintro R i ⟨hi, hP⟩ hN hE hR
  conv => whnf
  refine sel_split (fun h => ?_) (fun h => ?_)
  · conv => whnf
    have h := of_decide_eq_true h
    rw [hlen] at h
    obtain ⟨c, hc⟩ : ∃ c, xs[i]? = some c := ⟨_, List.getElem?_eq_getElem (show i < xs.length by omega)⟩
    refine ⟨_, ⟨by omega, idx_c hc⟩, ?_⟩
    conv => whnf
    obtain ⟨q, hq⟩ := boolOf (p c)
    refine ⟨_, _, hg c (List.mem_of_getElem? hc) ob _ q hq, fun _ => rfl, ?_⟩
    conv => whnf
    refine sel_split (fun h2 => ?_) (fun h2 => ?_)
    · conv => whnf
      refine hR _ ?_
      conv => whnf
      refine ⟨rfl, ?_, rfl⟩
      rw [hj.at hc (hq.1 h2) hP]; rfl
    · conv => whnf
      have e : IntKind.i64.wrap ((i : Int) + 1) = ((i + 1 : Nat) : Int) := by rw [wrap64] <;> omega
      refine hN (i + 1) _ ⟨by omega, fun k d hk hd => ?_⟩ (by omega) ?_
      · by_cases hki : k = i
        · subst hki; rw [hc] at hd; cases hd
          intro hp; rw [hq.2 hp] at h2; cases h2
        · exact hP k d (by omega) hd
      · rw [← e]; rfl
  · conv => whnf
    have h := of_decide_eq_false h
    rw [hlen] at h
    refine hE _ _ ?_
    conv => whnf
    refine ⟨rfl, ?_, rfl⟩
    rw [hj.none fun k d hk => hP k d (by omega)]; rfl
theorem idx296p_ok (g ca co lab : Nat) (cb : List LV) (xs : List Cl) (sp : List (List LV)) (p : Cl → Prop) (hl : xs.length ≤ 4611686018427387904) (hg : ∀ x ∈ xs, ∀ ob pb (r : Bool), (r = true ↔ p x) → Gives env4 g (.agg x.row :: [.iptr ca cb co]) ob pb (.bool r, ob)) (ob : Obs) (pb : Nat) :
    ∃ j : Int, FirstJ xs p j ∧ Gives env4 296 [slC false lab xs sp, .fn g [.iptr ca cb co]] ob pb (.int .i64 j, ob) := by
  obtain ⟨j, hj⟩ := firstJ xs p
  refine ⟨j, hj, ?_⟩
  have hlen : (xs.map Cl.row).length = xs.length := by simp
  refine gives_code (f := tf296) rfl ?_
  conv => whnf
  refine loop_abs (S := fun i : Nat => SIx (slC false lab xs sp) (.fn g [.iptr ca cb co]) (xs.map Cl.row).length i ob) (m := fun i => xs.length - i) (P := fun i => i ≤ xs.length ∧ ∀ (k : Nat) d, k < i → xs[k]? = some d → ¬ p d) ?_ 0 ⟨Nat.zero_le _, fun k s h => by omega⟩ rfl
  rintro R i ⟨hi, hP⟩ hN hE hR
  conv => whnf
  refine sel_split (fun h => ?_) (fun h => ?_)
  · conv => whnf
    have h := of_decide_eq_true h
    rw [hlen] at h
    obtain ⟨c, hc⟩ : ∃ c, xs[i]? = some c := ⟨_, List.getElem?_eq_getElem (show i < xs.length by omega)⟩
    refine ⟨_, ⟨by omega, idx_c hc⟩, ?_⟩
    conv => whnf
    obtain ⟨q, hq⟩ := boolOf (p c)
    refine ⟨_, _, hg c (List.mem_of_getElem? hc) ob _ q hq, fun _ => rfl, ?_⟩
    conv => whnf
    refine sel_split (fun h2 => ?_) (fun h2 => ?_)
    · conv => whnf
      refine hR _ ?_
      conv => whnf
      refine ⟨rfl, ?_, rfl⟩
      rw [hj.at hc (hq.1 h2) hP]; rfl
    · conv => whnf
      have e : IntKind.i64.wrap ((i : Int) + 1) = ((i + 1 : Nat) : Int) := by rw [wrap64] <;> omega
      refine hN (i + 1) _ ⟨by omega, fun k d hk hd => ?_⟩ (by omega) ?_
      · by_cases hki : k = i
        · subst hki; rw [hc] at hd; cases hd
          intro hp; rw [hq.2 hp] at h2; cases h2
        · exact hP k d (by omega) hd
      · rw [← e]; rfl
  · conv => whnf
    have h := of_decide_eq_false h
    rw [hlen] at h
    refine hE _ _ ?_
    conv => whnf
    refine ⟨rfl, ?_, rfl⟩
    rw [hj.none fun k d hk => hP k d (by omega)]; rfl
theorem idx311p_ok (g ca co lab : Nat) (cb : List LV) (xs : List PV) (sp : List (List LV)) (p : PV → Prop) (hl : xs.length ≤ 4611686018427387904) (hg : ∀ x ∈ xs, ∀ ob pb (r : Bool), (r = true ↔ p x) → Gives env4 g (pv x :: [.iptr ca cb co]) ob pb (.bool r, ob)) (ob : Obs) (pb : Nat) :
    ∃ j : Int, FirstJ xs p j ∧ Gives env4 311 [slP false lab xs sp, .fn g [.iptr ca cb co]] ob pb (.int .i64 j, ob) := by
  obtain ⟨j, hj⟩ := firstJ xs p
  refine ⟨j, hj, ?_⟩
  have hlen : (xs.map prow).length = xs.length := by simp
  refine gives_code (f := tf311) rfl ?_
  conv => whnf
  refine loop_abs (S := fun i : Nat => SIx (slP false lab xs sp) (.fn g [.iptr ca cb co]) (xs.map prow).length i ob) (m := fun i => xs.length - i) (P := fun i => i ≤ xs.length ∧ ∀ (k : Nat) d, k < i → xs[k]? = some d → ¬ p d) ?_ 0 ⟨Nat.zero_le _, fun k s h => by omega⟩ rfl
  rintro R i ⟨hi, hP⟩ hN hE hR
  conv => whnf
  refine sel_split (fun h => ?_) (fun h => ?_)
  · conv => whnf
    have h := of_decide_eq_true h
    rw [hlen] at h
    obtain ⟨c, hc⟩ : ∃ c, xs[i]? = some c := ⟨_, List.getElem?_eq_getElem (show i < xs.length by omega)⟩
    refine ⟨_, ⟨by omega, idx_p hc⟩, ?_⟩
    conv => whnf
    obtain ⟨q, hq⟩ := boolOf (p c)
    refine ⟨_, _, hg c (List.mem_of_getElem? hc) ob _ q hq, fun _ => rfl, ?_⟩
    conv => whnf
    refine sel_split (fun h2 => ?_) (fun h2 => ?_)
    · conv => whnf
      refine hR _ ?_
      conv => whnf
      refine ⟨rfl, ?_, rfl⟩
      rw [hj.at hc (hq.1 h2) hP]; rfl
    · conv => whnf
      have e : IntKind.i64.wrap ((i : Int) + 1) = ((i + 1 : Nat) : Int) := by rw [wrap64] <;> omega
      refine hN (i + 1) _ ⟨by omega, fun k d hk hd => ?_⟩ (by omega) ?_
      · by_cases hki : k = i
        · subst hki; rw [hc] at hd; cases hd
          intro hp; rw [hq.2 hp] at h2; cases h2
        · exact hP k d (by omega) hd
      · rw [← e]; rfl
  · conv => whnf
    have h := of_decide_eq_false h
    rw [hlen] at h
    refine hE _ _ ?_
    conv => whnf
    refine ⟨rfl, ?_, rfl⟩
    rw [hj.none fun k d hk => hP k d (by omega)]; rfl
theorem any310p_ok (g ca co lab : Nat) (cb : List LV) (xs : List PV) (sp : List (List LV)) (p : PV → Prop) (hl : xs.length ≤ 4611686018427387904) (hg : ∀ x ∈ xs, ∀ ob pb (r : Bool), (r = true ↔ p x) → Gives env4 g (pv x :: [.iptr ca cb co]) ob pb (.bool r, ob)) (ob : Obs) (pb : Nat) (r : Bool) (hr : r = true ↔ ∃ x ∈ xs, p x) :
    Gives env4 310 [slP false lab xs sp, .fn g [.iptr ca cb co]] ob pb (.bool r, ob) := by
  obtain ⟨j, hj, hg⟩ := idx311p_ok g ca co lab cb xs sp p hl hg ob (max pb ob.length)
  refine gives_code (f := tf310) rfl ?_
  conv => whnf
  refine ⟨_, _, hg, fun _ => rfl, ?_⟩
  conv => whnf
  refine ⟨rfl, bool_of hr ?_, rfl⟩
  rw [decide_eq_true_iff, hj.ge]
theorem idx53_ok (g  lab : Nat) (xs : List T1) (sp : List (List LV)) (p : T1 → Prop) (hl : xs.length ≤ 4611686018427387904) (hg : ∀ x ∈ xs, ∀ ob pb (r : Bool), (r = true ↔ p x) → Gives env4 g (sl5 false x.lab x.cs x.sp :: []) ob pb (.bool r, ob)) (ob : Obs) (pb : Nat) :
    ∃ j : Int, FirstJ xs p j ∧ Gives env4 53 [sl1 false lab xs sp, .fn g []] ob pb (.int .i64 j, ob) := by
  obtain ⟨j, hj⟩ := firstJ xs p
  refine ⟨j, hj, ?_⟩
  have hlen : (xs.map T1.row).length = xs.length := by simp
  refine gives_code (f := tf53) rfl ?_
  conv => whnf
  refine loop_abs (S := fun i : Nat => SIx (sl1 false lab xs sp) (.fn g []) (xs.map T1.row).length i ob) (m := fun i => xs.length - i) (P := fun i => i ≤ xs.length ∧ ∀ (k : Nat) d, k < i → xs[k]? = some d → ¬ p d) ?_ 0 ⟨Nat.zero_le _, fun k s h => by omega⟩ rfl
  rintro R i ⟨hi, hP⟩ hN hE hR
  conv => whnf
  refine sel_split (fun h => ?_) (fun h => ?_)
  · conv => whnf
    have h := of_decide_eq_true h
    rw [hlen] at h
    obtain ⟨c, hc⟩ : ∃ c, xs[i]? = some c := ⟨_, List.getElem?_eq_getElem (show i < xs.length by omega)⟩
    refine ⟨_, ⟨by omega, idx_t hc⟩, ?_⟩
    conv => whnf
    obtain ⟨q, hq⟩ := boolOf (p c)
    refine ⟨_, _, hg c (List.mem_of_getElem? hc) ob _ q hq, fun _ => rfl, ?_⟩
    conv => whnf
    refine sel_split (fun h2 => ?_) (fun h2 => ?_)
    · conv => whnf
      refine hR _ ?_
      conv => whnf
      refine ⟨rfl, ?_, rfl⟩
      rw [hj.at hc (hq.1 h2) hP]; rfl
    · conv => whnf
      have e : IntKind.i64.wrap ((i : Int) + 1) = ((i + 1 : Nat) : Int) := by rw [wrap64] <;> omega
      refine hN (i + 1) _ ⟨by omega, fun k d hk hd => ?_⟩ (by omega) ?_
      · by_cases hki : k = i
        · subst hki; rw [hc] at hd; cases hd
          intro hp; rw [hq.2 hp] at h2; cases h2
        · exact hP k d (by omega) hd
      · rw [← e]; rfl
  · conv => whnf
    have h := of_decide_eq_false h
    rw [hlen] at h
    refine hE _ _ ?_
    conv => whnf
    refine ⟨rfl, ?_, rfl⟩
    rw [hj.none fun k d hk => hP k d (by omega)]; rfl
theorem any33_ok (g  lab : Nat) (xs : List T1) (sp : List (List LV)) (p : T1 → Prop) (hl : xs.length ≤ 4611686018427387904) (hg : ∀ x ∈ xs, ∀ ob pb (r : Bool), (r = true ↔ p x) → Gives env4 g (sl5 false x.lab x.cs x.sp :: []) ob pb (.bool r, ob)) (ob : Obs) (pb : Nat) (r : Bool) (hr : r = true ↔ ∃ x ∈ xs, p x) :
    Gives env4 33 [sl1 false lab xs sp, .fn g []] ob pb (.bool r, ob) := by
  obtain ⟨j, hj, hg⟩ := idx53_ok g  lab  xs sp p hl hg ob (max pb ob.length)
  refine gives_code (f := tf33) rfl ?_
  conv => whnf
  refine ⟨_, _, hg, fun _ => rfl, ?_⟩
  conv => whnf
  refine ⟨rfl, bool_of hr ?_, rfl⟩
  rw [decide_eq_true_iff, hj.ge]
theorem idx53p_ok (g ca co lab : Nat) (cb : List LV) (xs : List T1) (sp : List (List LV)) (p : T1 → Prop) (hl : xs.length ≤ 4611686018427387904) (hg : ∀ x ∈ xs, ∀ ob pb (r : Bool), (r = true ↔ p x) → Gives env4 g (sl5 false x.lab x.cs x.sp :: [.iptr ca cb co]) ob pb (.bool r, ob)) (ob : Obs) (pb : Nat) :
    ∃ j : Int, FirstJ xs p j ∧ Gives env4 53 [sl1 false lab xs sp, .fn g [.iptr ca cb co]] ob pb (.int .i64 j, ob) := by
  obtain ⟨j, hj⟩ := firstJ xs p
  refine ⟨j, hj, ?_⟩
  have hlen : (xs.map T1.row).length = xs.length := by simp
  refine gives_code (f := tf53) rfl ?_
  conv => whnf
  refine loop_abs (S := fun i : Nat => SIx (sl1 false lab xs sp) (.fn g [.iptr ca cb co]) (xs.map T1.row).length i ob) (m := fun i => xs.length - i) (P := fun i => i ≤ xs.length ∧ ∀ (k : Nat) d, k < i → xs[k]? = some d → ¬ p d) ?_ 0 ⟨Nat.zero_le _, fun k s h => by omega⟩ rfl
  rintro R i ⟨hi, hP⟩ hN hE hR
  conv => whnf
  refine sel_split (fun h => ?_) (fun h => ?_)
  · conv => whnf
    have h := of_decide_eq_true h
    rw [hlen] at h
    obtain ⟨c, hc⟩ : ∃ c, xs[i]? = some c := ⟨_, List.getElem?_eq_getElem (show i < xs.length by omega)⟩
    refine ⟨_, ⟨by omega, idx_t hc⟩, ?_⟩
    conv => whnf
    obtain ⟨q, hq⟩ := boolOf (p c)
    refine ⟨_, _, hg c (List.mem_of_getElem? hc) ob _ q hq, fun _ => rfl, ?_⟩
    conv => whnf
    refine sel_split (fun h2 => ?_) (fun h2 => ?_)
    · conv => whnf
      refine hR _ ?_
      conv => whnf
      refine ⟨rfl, ?_, rfl⟩
      rw [hj.at hc (hq.1 h2) hP]; rfl
    · conv => whnf
      have e : IntKind.i64.wrap ((i : Int) + 1) = ((i + 1 : Nat) : Int) := by rw [wrap64] <;> omega
      refine hN (i + 1) _ ⟨by omega, fun k d hk hd => ?_⟩ (by omega) ?_
      · by_cases hki : k = i
        · subst hki; rw [hc] at hd; cases hd
          intro hp; rw [hq.2 hp] at h2; cases h2
        · exact hP k d (by omega) hd
      · rw [← e]; rfl
  · conv => whnf
    have h := of_decide_eq_false h
    rw [hlen] at h
    refine hE _ _ ?_
    conv => whnf
    refine ⟨rfl, ?_, rfl⟩
    rw [hj.none fun k d hk => hP k d (by omega)]; rfl
theorem any33p_ok (g ca co lab : Nat) (cb : List LV) (xs : List T1) (sp : List (List LV)) (p : T1 → Prop) (hl : xs.length ≤ 4611686018427387904) (hg : ∀ x ∈ xs, ∀ ob pb (r : Bool), (r = true ↔ p x) → Gives env4 g (sl5 false x.lab x.cs x.sp :: [.iptr ca cb co]) ob pb (.bool r, ob)) (ob : Obs) (pb : Nat) (r : Bool) (hr : r = true ↔ ∃ x ∈ xs, p x) :
    Gives env4 33 [sl1 false lab xs sp, .fn g [.iptr ca cb co]] ob pb (.bool r, ob) := by
  obtain ⟨j, hj, hg⟩ := idx53p_ok g ca co lab cb xs sp p hl hg ob (max pb ob.length)
  refine gives_code (f := tf33) rfl ?_
  conv => whnf
  refine ⟨_, _, hg, fun _ => rfl, ?_⟩
  conv => whnf
  refine ⟨rfl, bool_of hr ?_, rfl⟩
  rw [decide_eq_true_iff, hj.ge]
theorem idx207p_ok (g ca co lab : Nat) (cb : List LV) (xs : List NV) (sp : List (List LV)) (p : NV → Prop) (hl : xs.length ≤ 4611686018427387904) (hg : ∀ x ∈ xs, ∀ ob pb (r : Bool), (r = true ↔ p x) → Gives env4 g (nm x.1 x.2 :: [.iptr ca cb co]) ob pb (.bool r, ob)) (ob : Obs) (pb : Nat) :
    ∃ j : Int, FirstJ xs p j ∧ Gives env4 207 [sl2 false lab xs sp, .fn g [.iptr ca cb co]] ob pb (.int .i64 j, ob) := by
  obtain ⟨j, hj⟩ := firstJ xs p
  refine ⟨j, hj, ?_⟩
  have hlen : (xs.map nrow).length = xs.length := by simp
  refine gives_code (f := tf207) rfl ?_
  conv => whnf
  refine loop_abs (S := fun i : Nat => SIx (sl2 false lab xs sp) (.fn g [.iptr ca cb co]) (xs.map nrow).length i ob) (m := fun i => xs.length - i) (P := fun i => i ≤ xs.length ∧ ∀ (k : Nat) d, k < i → xs[k]? = some d → ¬ p d) ?_ 0 ⟨Nat.zero_le _, fun k s h => by omega⟩ rfl
  rintro R i ⟨hi, hP⟩ hN hE hR
  conv => whnf
  refine sel_split (fun h => ?_) (fun h => ?_)
  · conv => whnf
    have h := of_decide_eq_true h
    rw [hlen] at h
    obtain ⟨c, hc⟩ : ∃ c, xs[i]? = some c := ⟨_, List.getElem?_eq_getElem (show i < xs.length by omega)⟩
    refine ⟨_, ⟨by omega, idx_n hc⟩, ?_⟩
    conv => whnf
    obtain ⟨q, hq⟩ := boolOf (p c)
    refine ⟨_, _, hg c (List.mem_of_getElem? hc) ob _ q hq, fun _ => rfl, ?_⟩
    conv => whnf
    refine sel_split (fun h2 => ?_) (fun h2 => ?_)
    · conv => whnf
      refine hR _ ?_
      conv => whnf
      refine ⟨rfl, ?_, rfl⟩
      rw [hj.at hc (hq.1 h2) hP]; rfl
    · conv => whnf
      have e : IntKind.i64.wrap ((i : Int) + 1) = ((i + 1 : Nat) : Int) := by rw [wrap64] <;> omega
      refine hN (i + 1) _ ⟨by omega, fun k d hk hd => ?_⟩ (by omega) ?_
      · by_cases hki : k = i
        · subst hki; rw [hc] at hd; cases hd
          intro hp; rw [hq.2 hp] at h2; cases h2
        · exact hP k d (by omega) hd
      · rw [← e]; rfl
  · conv => whnf
    have h := of_decide_eq_false h
    rw [hlen] at h
    refine hE _ _ ?_
    conv => whnf
    refine ⟨rfl, ?_, rfl⟩
    rw [hj.none fun k d hk => hP k d (by omega)]; rfl
theorem any174p_ok (g ca co lab : Nat) (cb : List LV) (xs : List NV) (sp : List (List LV)) (p : NV → Prop) (hl : xs.length ≤ 4611686018427387904) (hg : ∀ x ∈ xs, ∀ ob pb (r : Bool), (r = true ↔ p x) → Gives env4 g (nm x.1 x.2 :: [.iptr ca cb co]) ob pb (.bool r, ob)) (ob : Obs) (pb : Nat) (r : Bool) (hr : r = true ↔ ∃ x ∈ xs, p x) :
    Gives env4 174 [sl2 false lab xs sp, .fn g [.iptr ca cb co]] ob pb (.bool r, ob) := by
  obtain ⟨j, hj, hg⟩ := idx207p_ok g ca co lab cb xs sp p hl hg ob (max pb ob.length)
  refine gives_code (f := tf174) rfl ?_
  conv => whnf
  refine ⟨_, _, hg, fun _ => rfl, ?_⟩
  conv => whnf
  refine ⟨rfl, bool_of hr ?_, rfl⟩
  rw [decide_eq_true_iff, hj.ge]
end Tree
