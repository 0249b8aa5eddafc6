/- RefsSafe, the plain law: the invariant, and what it says. -/
import Derived.Test.YtkeadnggllgphaaR16X
set_option autoImplicit false
set_option linter.unusedVariables false
set_option linter.unusedSimpArgs false
namespace Tree.R16
open Go Tree
structure IvW (w : Ways) (q : Gq) (c n B : Nat) : Prop where
  gh : ∀ i, 1 ≤ i → i < 4 → (q i).map (·.1) = w i 0
  ts : ∀ i, 1 ≤ i → i < 4 → ∀ m ∈ q i, m.2 < c
  dg : ∀ i, i < 4 → w i i = []
  ref : ∀ f t, f < 4 → t < 4 → t ≠ 0 → ∀ m ∈ w f t, m.1 = 0
  nt : ∀ f, 1 ≤ f → f < 4 → ∀ m ∈ w f 0, m.1 = 0 ∨ (m.1 = 1 ∧ 1 ≤ m.2.1 ∧ m.2.1 < 4) ∨ (m.1 = 2 ∧ 1 ≤ m.2.2 ∧ m.2.2 ≤ n)
  lb : ∀ f t, (w f t).length ≤ B
theorem IvW.push0 {w : Ways} {q : Gq} {c n B : Nat} (h : IvW w q c n B) (f : Nat) (hf : 1 ≤ f) (hf4 : f < 4) (x : Nte) (n' : Nat) (hn : n ≤ n') (hx : x.1 = 0 ∨ (x.1 = 1 ∧ 1 ≤ x.2.1 ∧ x.2.1 < 4) ∨ (x.1 = 2 ∧ 1 ≤ x.2.2 ∧ x.2.2 ≤ n')) :
    IvW (upW w f 0 (w f 0 ++ [x])) (upQ q f (q f ++ [(x, c)])) (c + 1) n' (B + 1) := by
  refine ⟨fun i h1 h2 => ?_, fun i h1 h2 m hm => ?_, fun i hi => ?_, fun f' t' h1 h2 h3 m hm => ?_, fun f' h1 h2 m hm => ?_, fun f' t' => ?_⟩
  · unfold upQ upW
    by_cases e : i = f
    · rw [if_pos e, if_pos ⟨e, rfl⟩, List.map_append, h.gh f hf hf4]; rfl
    · rw [if_neg e, if_neg (fun q => e q.1)]; exact h.gh i h1 h2
  · unfold upQ at hm
    by_cases e : i = f
    · rw [if_pos e] at hm
      rcases List.mem_append.1 hm with hm | hm
      · have := h.ts f hf hf4 m hm; omega
      · rw [List.mem_singleton] at hm; subst hm; show c < c + 1; omega
    · rw [if_neg e] at hm; have := h.ts i h1 h2 m hm; omega
  · unfold upW; rw [if_neg (fun q => by omega)]; exact h.dg i hi
  · unfold upW at hm; rw [if_neg (fun q => h3 q.2)] at hm; exact h.ref f' t' h1 h2 h3 m hm
  · unfold upW at hm
    by_cases e : f' = f
    · rw [if_pos ⟨e, rfl⟩] at hm
      rcases List.mem_append.1 hm with hm | hm
      · have := h.nt f hf hf4 m hm; omega
      · rw [List.mem_singleton] at hm; subst hm; exact hx
    · rw [if_neg (fun q => e q.1)] at hm; have := h.nt f' h1 h2 m hm; omega
  · unfold upW
    have := h.lb f 0
    have := h.lb f' t'
    split
    · simp only [List.length_append, List.length_cons, List.length_nil]; omega
    · omega
theorem IvW.pushT {w : Ways} {q : Gq} {c n B : Nat} (h : IvW w q c n B) (f t : Nat) (hf4 : f < 4) (ht : 1 ≤ t) (ht4 : t < 4) (hft : f ≠ t) : IvW (upW w f t (w f t ++ [(0, 0, 0)])) q c n (B + 1) := by
  refine ⟨fun i h1 h2 => ?_, h.ts, fun i hi => ?_, fun f' t' h1 h2 h3 m hm => ?_, fun f' h1 h2 m hm => ?_, fun f' t' => ?_⟩
  · unfold upW; rw [if_neg (fun q => by omega)]; exact h.gh i h1 h2
  · unfold upW; rw [if_neg (fun q => by omega)]; exact h.dg i hi
  · unfold upW at hm
    by_cases e : f' = f ∧ t' = t
    · rw [if_pos e] at hm
      rcases List.mem_append.1 hm with hm | hm
      · exact h.ref f t hf4 ht4 (by omega) m hm
      · rw [List.mem_singleton] at hm; subst hm; rfl
    · rw [if_neg e] at hm; exact h.ref f' t' h1 h2 h3 m hm
  · unfold upW at hm; rw [if_neg (fun q => by omega)] at hm; exact h.nt f' h1 h2 m hm
  · unfold upW
    have := h.lb f t
    have := h.lb f' t'
    split
    · simp only [List.length_append, List.length_cons, List.length_nil]; omega
    · omega
theorem IvW.sub {w w' : Ways} {q q' : Gq} {c n n' B B' : Nat} (h : IvW w q c n B) (hn : n ≤ n') (hB : B ≤ B') (hw : ∀ f t, ∃ p, w f t = p ++ w' f t) (hq : ∀ i, 1 ≤ i → i < 4 → (q' i).map (·.1) = w' i 0) (hq2 : ∀ i, 1 ≤ i → i < 4 → ∀ m ∈ q' i, m ∈ q i) : IvW w' q' c n' B' := by
  have hm : ∀ f t m, m ∈ w' f t → m ∈ w f t := by
    intro f t m h1
    obtain ⟨p, e⟩ := hw f t
    rw [e]; exact List.mem_append.2 (.inr h1)
  refine ⟨hq, fun i h1 h2 m h3 => h.ts i h1 h2 m (hq2 i h1 h2 m h3), fun i hi => ?_, fun f t h1 h2 h3 m h4 => h.ref f t h1 h2 h3 m (hm _ _ _ h4), fun f h1 h2 m h3 => ?_, fun f t => ?_⟩
  · obtain ⟨p, e⟩ := hw i i
    rw [h.dg i hi] at e
    exact (List.append_eq_nil_iff.1 e.symm).2
  · have := h.nt f h1 h2 m (hm _ _ _ h3); omega
  · obtain ⟨p, e⟩ := hw f t
    have := h.lb f t
    rw [e, List.length_append] at this; omega
def refs (w : Ways) (i : Nat) : Int := r4 fun k => cntR (w k i)
def adds (q : Gq) (c i : Nat) : Int := s3 fun k => cntB i c (q k)
structure Iv (S : Ws) (q : Gq) (c n : Nat) : Prop where
  W : IvW S.w q c n (2 * n)
  ez : ∀ j, ¬ (1 ≤ j ∧ j < 4) → S.E j = 0
  bal : ∀ i : Nat, 1 ≤ i → i < 4 → S.E i + adds q c i - rel (q i) = S.H i + refs S.w i
  old : Old S.E q
  hb : ∀ i, 0 ≤ S.H i ∧ S.H i ≤ n
  eb : ∀ j, S.E j ≤ n
theorem refs_up (w : Ways) (f t i : Nat) (hf : f < 4) (x : List Nte) : refs (upW w f t x) i = refs w i + if i = t then cntR x - cntR (w f t) else 0 := r4_up cntR w f t i hf x
theorem adds_late {q : Gq} {c : Nat} (h : ∀ i, 1 ≤ i → i < 4 → ∀ m ∈ q i, m.2 < c) (i : Nat) : adds q (c + 1) i = adds q c i := by
  unfold adds s3
  dsimp only
  rw [cntB_late i c (c + 1) (by omega) _ (h 1 (by omega) (by omega)), cntB_late i c (c + 1) (by omega) _ (h 2 (by omega) (by omega)), cntB_late i c (c + 1) (by omega) _ (h 3 (by omega) (by omega))]
theorem adds_push {q : Gq} {c : Nat} (h : ∀ i, 1 ≤ i → i < 4 → ∀ m ∈ q i, m.2 < c) (f : Nat) (hf : 1 ≤ f) (hf4 : f < 4) (x : Nte) (i : Nat) : adds (upQ q f (q f ++ [(x, c)])) (c + 1) i = adds q c i + if x.1 = 1 ∧ x.2.1 = (i : Int) then 1 else 0 := by
  have e := adds_late h i
  unfold adds at *
  rw [s3_up (cntB i (c + 1)) q f hf hf4, cntB_app, e]
  simp only [cntB]
  by_cases k : x.1 = 1 ∧ x.2.1 = (i : Int)
  · rw [if_pos k, if_pos ⟨k.1, k.2, by omega⟩]; omega
  · rw [if_neg k, if_neg (fun q => k ⟨q.1, q.2.1⟩)]; omega
theorem adds_pop {q : Gq} {c : Nat} (f : Nat) (hf : 1 ≤ f) (hf4 : f < 4) (m : Nte × Nat) (r : List (Nte × Nat)) (he : q f = m :: r) (hm : m.2 < c) (i : Nat) : adds (upQ q f r) c i = adds q c i - if m.1.1 = 1 ∧ m.1.2.1 = (i : Int) then 1 else 0 := by
  unfold adds
  rw [s3_up (cntB i c) q f hf hf4, he]
  simp only [cntB]
  by_cases k : m.1.1 = 1 ∧ m.1.2.1 = (i : Int)
  · rw [if_pos k, if_pos ⟨k.1, k.2, hm⟩]; omega
  · rw [if_neg k, if_neg (fun q => k ⟨q.1, q.2.1⟩)]; omega
theorem refs_nn (w : Ways) (i : Nat) : 0 ≤ refs w i := by
  unfold refs r4
  dsimp only
  have := cntR_nn (w 0 i); have := cntR_nn (w 1 i); have := cntR_nn (w 2 i); have := cntR_nn (w 3 i)
  omega
theorem Iv.sent {S : Ws} {q : Gq} {c n : Nat} (h : Iv S q c n) (t : Nat) (ht : 1 ≤ t) (ht4 : t < 4) : Iv (sendS ⟨upE S.E t 1, S.H, S.w⟩ 0 t (0, 0, 0)) q c (n + 1) := by
  have hw := (h.W.pushT 0 t (by omega) ht ht4 (by omega))
  refine ⟨?_, fun j hj => ?_, fun i h1 h2 => ?_, h.old.mono fun j => ?_, fun i => ?_, fun j => ?_⟩
  · exact hw.sub (by omega) (by omega) (fun f t => ⟨[], rfl⟩) hw.gh (fun i h1 h2 m h => h)
  · show upE S.E t 1 j = 0
    unfold upE; rw [if_neg (by omega)]; exact h.ez j hj
  · show upE S.E t 1 i + adds q c i - rel (q i) = S.H i + refs (upW S.w 0 t (S.w 0 t ++ [(0, 0, 0)])) i
    rw [refs_up _ _ _ _ (by omega), cntR_app]
    have := h.bal i h1 h2
    unfold upE
    by_cases e : i = t
    · rw [if_pos e, if_pos (by omega)]
      have : cntR [(0, 0, 0)] = 1 := rfl
      omega
    · rw [if_neg e, if_neg (by omega)]; omega
  · show S.E j ≤ upE S.E t 1 j
    unfold upE; split <;> omega
  · have := h.hb i; show 0 ≤ S.H i ∧ S.H i ≤ _; push_cast; omega
  · have := h.eb j
    show upE S.E t 1 j ≤ _
    unfold upE; push_cast; split <;> omega
theorem Iv.fwd0 {S : Ws} {q : Gq} {c n : Nat} (h : Iv S q c n) (f : Nat) (hf : 1 ≤ f) (hf4 : f < 4) : Iv (sendS S f 0 (0, 0, 0)) (upQ q f (q f ++ [((0, 0, 0), c)])) (c + 1) (n + 1) := by
  have hw := h.W.push0 f hf hf4 (0, 0, 0) (n + 1) (by omega) (.inl rfl)
  refine ⟨?_, h.ez, fun i h1 h2 => ?_, h.old.push h.W.ts f hf hf4 _ (fun e => by cases e), fun i => ?_, fun j => ?_⟩
  · exact hw.sub (by omega) (by omega) (fun f t => ⟨[], rfl⟩) hw.gh (fun i h1 h2 m h => h)
  · show S.E i + adds (upQ q f (q f ++ [((0, 0, 0), c)])) (c + 1) i - rel (upQ q f (q f ++ [((0, 0, 0), c)]) i) = S.H i + refs (upW S.w f 0 _) i
    rw [adds_push h.W.ts f hf hf4, refs_up _ _ _ _ hf4, if_neg (by omega), if_neg (by omega)]
    have := h.bal i h1 h2
    have e : rel (upQ q f (q f ++ [((0, 0, 0), c)]) i) = rel (q i) := by
      unfold upQ
      by_cases e : i = f
      · rw [if_pos e, rel_app, e]; show rel (q f) + (0 + 0) = _; omega
      · rw [if_neg e]
    rw [e]; omega
  · have := h.hb i; show 0 ≤ S.H i ∧ S.H i ≤ _; push_cast; omega
  · have := h.eb j; show S.E j ≤ _; push_cast; omega
theorem Iv.fwd {S : Ws} {q : Gq} {c n : Nat} (h : Iv S q c n) (f t : Nat) (hf : 1 ≤ f) (hf4 : f < 4) (ht : 1 ≤ t) (ht4 : t < 4) (hft : f ≠ t) (hp : 0 < S.H f) :
    Iv (sendS (sendS S f 0 (1, t, 0)) f t (0, 0, 0)) (upQ q f (q f ++ [((1, (t : Int), 0), c)])) (c + 1) (n + 1) := by
  have hw := (h.W.push0 f hf hf4 (1, t, 0) (n + 1) (by omega) (.inr (.inl ⟨rfl, by show (1 : Int) ≤ (t : Int); omega, by show (t : Int) < 4; omega⟩))).pushT f t hf4 ht ht4 hft
  refine ⟨?_, h.ez, fun i h1 h2 => ?_, h.old.push h.W.ts f hf hf4 _ (fun e => ?_), fun i => ?_, fun j => ?_⟩
  · exact hw.sub (by omega) (by omega) (fun f t => ⟨[], rfl⟩) hw.gh (fun i h1 h2 m h => h)
  · show S.E i + adds (upQ q f (q f ++ [((1, (t : Int), 0), c)])) (c + 1) i - rel (upQ q f (q f ++ [((1, (t : Int), 0), c)]) i) = S.H i + refs (upW (upW S.w f 0 _) f t _) i
    rw [adds_push h.W.ts f hf hf4, refs_up _ _ _ _ hf4, refs_up _ _ _ _ hf4, if_neg (show ¬ i = 0 by omega)]
    have := h.bal i h1 h2
    have e : rel (upQ q f (q f ++ [((1, (t : Int), 0), c)]) i) = rel (q i) := by
      unfold upQ
      by_cases e : i = f
      · rw [if_pos e, rel_app, e]; show rel (q f) + (0 + 0) = _; omega
      · rw [if_neg e]
    have e2 : upW S.w f 0 (S.w f 0 ++ [(1, (t : Int), 0)]) f t = S.w f t := by unfold upW; rw [if_neg (by omega)]
    have e3 : (sendS S f 0 (1, (t : Int), 0)).w f t = S.w f t := e2
    rw [e, e2, e3, cntR_app]
    have e4 : cntR [(0, 0, 0)] = 1 := rfl
    by_cases k : i = t
    · rw [if_pos k, if_pos ⟨rfl, by show (t : Int) = i; omega⟩]; omega
    · rw [if_neg k, if_neg (fun q => k (by have : (t : Int) = i := q.2; omega))]; omega
  · have := h.bal f hf hf4
    have := refs_nn S.w f
    show 1 ≤ S.E f + adds q c f - rel (q f)
    omega
  · have := h.hb i; show 0 ≤ S.H i ∧ S.H i ≤ _; push_cast; omega
  · have := h.eb j; show S.E j ≤ _; push_cast; omega
theorem Iv.free {S : Ws} {q : Gq} {c n : Nat} (h : Iv S q c n) (f : Nat) (hf : 1 ≤ f) (hf4 : f < 4) (hp : 0 < S.H f) :
    Iv (sendS ⟨S.E, upH S.H f 0, S.w⟩ f 0 (2, 0, S.H f)) (upQ q f (q f ++ [((2, 0, S.H f), c)])) (c + 1) (n + 1) := by
  have hw := h.W.push0 f hf hf4 (2, 0, S.H f) (n + 1) (by omega) (.inr (.inr ⟨rfl, by show 1 ≤ S.H f; omega, by have := h.hb f; show S.H f ≤ _; push_cast; omega⟩))
  refine ⟨?_, h.ez, fun i h1 h2 => ?_, h.old.push h.W.ts f hf hf4 _ (fun e => by cases e), fun i => ?_, fun j => ?_⟩
  · exact hw.sub (by omega) (by omega) (fun f t => ⟨[], rfl⟩) hw.gh (fun i h1 h2 m h => h)
  · show S.E i + adds (upQ q f (q f ++ [((2, 0, S.H f), c)])) (c + 1) i - rel (upQ q f (q f ++ [((2, 0, S.H f), c)]) i) = upH S.H f 0 i + refs (upW S.w f 0 _) i
    rw [adds_push h.W.ts f hf hf4, refs_up _ _ _ _ hf4, if_neg (show ¬ i = 0 by omega), if_neg (fun q => by have := q.1; cases this)]
    have := h.bal i h1 h2
    unfold upQ upH
    by_cases e : i = f
    · rw [if_pos e, if_pos e, rel_app]
      subst e
      show S.E i + (adds q c i + 0) - (rel (q i) + (S.H i + 0)) = _
      omega
    · rw [if_neg e, if_neg e]; omega
  · have := h.hb i
    show 0 ≤ upH S.H f 0 i ∧ upH S.H f 0 i ≤ _
    unfold upH; push_cast; split <;> omega
  · have := h.eb j; show S.E j ≤ _; push_cast; omega
theorem Iv.pop {S : Ws} {q : Gq} {c n : Nat} (h : Iv S q c n) (f t : Nat) (hf4 : f < 4) (ht4 : t < 4) (m : Nte) (r : List Nte) (he : S.w f t = m :: r) : ∃ q', Iv ⟨cE S.E f t m, cH S.H f t m, upW S.w f t r⟩ q' c (n + 1) := by
  have hsuf : ∀ f' t', ∃ p, S.w f' t' = p ++ upW S.w f t r f' t' := by
    intro f' t'
    unfold upW
    by_cases e : f' = f ∧ t' = t
    · rw [if_pos e, e.1, e.2, he]; exact ⟨[m], rfl⟩
    · rw [if_neg e]; exact ⟨[], rfl⟩
  have hft : f ≠ t := by
    intro e; subst e
    rw [h.W.dg f hf4] at he; cases he
  by_cases t0 : t = 0
  · subst t0
    have hf : 1 ≤ f := by omega
    have hg := h.W.gh f hf hf4
    rw [he] at hg
    obtain ⟨y, r', hq, hy, hr⟩ : ∃ y r', q f = y :: r' ∧ y.1 = m ∧ r'.map (·.1) = r := by
      cases hqf : q f with
      | nil => rw [hqf] at hg; cases hg
      | cons y r' => rw [hqf] at hg; simp only [List.map_cons, List.cons.injEq] at hg; exact ⟨y, r', rfl, hg.1, hg.2⟩
    have hts := h.W.ts f hf hf4 y (by rw [hq]; exact List.mem_cons_self ..)
    have hnt := h.W.nt f hf hf4 m (by rw [he]; exact List.mem_cons_self ..)
    subst hy
    have eH : cH S.H f 0 y.1 = S.H := by unfold cH; rw [if_neg (fun q => q.2 rfl)]
    refine ⟨upQ q f r', ⟨?_, fun j hj => ?_, fun i h1 h2 => ?_, h.old.pop f hf hf4 y r' hq, fun i => ?_, fun j => ?_⟩⟩
    · refine h.W.sub (by omega) (by omega) hsuf (fun i h1 h2 => ?_) (fun i h1 h2 z hz => ?_)
      · show (upQ q f r' i).map _ = upW S.w f 0 r i 0
        unfold upQ upW
        by_cases e : i = f
        · rw [if_pos e, if_pos ⟨e, rfl⟩, hr]
        · rw [if_neg e, if_neg (fun q => e q.1)]; exact h.W.gh i h1 h2
      · unfold upQ at hz
        by_cases e : i = f
        · rw [if_pos e] at hz; rw [e, hq]; exact List.mem_cons_of_mem _ hz
        · rw [if_neg e] at hz; exact hz
    · show cE S.E f 0 y.1 j = 0
      have hz := h.ez j hj
      unfold cE upE
      split
      · dsimp only; rw [if_neg (by omega)]; exact hz
      · split
        · dsimp only; rw [if_neg (by omega)]; exact hz
        · exact hz
    · show cE S.E f 0 y.1 i + adds (upQ q f r') c i - rel (upQ q f r' i) = cH S.H f 0 y.1 i + refs (upW S.w f 0 r) i
      rw [eH, adds_pop f hf hf4 y r' hq hts, refs_up _ _ _ _ hf4, if_neg (show ¬ i = 0 by omega)]
      have hb := h.bal i h1 h2
      have e5 : rel (upQ q f r' i) = rel (q i) - if i = f ∧ y.1.1 = 2 then y.1.2.2 else 0 := by
        unfold upQ
        by_cases e : i = f
        · rw [if_pos e, e, hq]
          simp only [rel]
          by_cases k : y.1.1 = 2
          · rw [if_pos k, if_pos ⟨trivial, k⟩]; omega
          · rw [if_neg k, if_neg (fun q => k q.2)]; omega
        · rw [if_neg e, if_neg (fun q => e q.1)]; omega
      rw [e5]
      unfold cE
      by_cases k1 : y.1.1 = 1
      · rw [if_pos k1, if_neg (show ¬ (i = f ∧ y.1.1 = 2) from fun q => by omega)]
        unfold upE
        by_cases k2 : (i : Int) = y.1.2.1
        · rw [if_pos k2, if_pos ⟨k1, k2.symm⟩]; omega
        · rw [if_neg k2, if_neg (fun q => k2 q.2.symm)]; omega
      · rw [if_neg k1, if_neg (show ¬ (y.1.1 = 1 ∧ y.1.2.1 = (i : Int)) from fun q => k1 q.1)]
        by_cases k2 : y.1.1 = 2
        · rw [if_pos k2]
          unfold upE
          by_cases k3 : i = f
          · rw [if_pos (by omega), if_pos ⟨k3, k2⟩]; omega
          · rw [if_neg (by omega), if_neg (fun q => k3 q.1)]; omega
        · rw [if_neg k2, if_neg (fun q => k2 q.2)]; omega
    · rw [eH]; have := h.hb i; push_cast; omega
    · have := h.eb j
      show cE S.E f 0 y.1 j ≤ _
      unfold cE upE; push_cast
      split
      · dsimp only; split <;> omega
      · split
        · rename_i k1 k2
          dsimp only
          rcases hnt with h0 | ⟨h0, _⟩ | ⟨h0, h3, h4⟩
          · omega
          · omega
          · split <;> omega
        · omega
  · have hm0 := h.W.ref f t hf4 ht4 t0 m (by rw [he]; exact List.mem_cons_self ..)
    have eE : cE S.E f t m = S.E := by unfold cE; rw [if_neg (by omega), if_neg (by omega)]
    have eH : cH S.H f t m = upH S.H t (S.H t + 1) := by unfold cH; rw [if_pos ⟨hm0, t0⟩]
    rw [eE, eH]
    refine ⟨q, ⟨?_, h.ez, fun i h1 h2 => ?_, h.old, fun i => ?_, fun j => ?_⟩⟩
    · refine h.W.sub (by omega) (by omega) hsuf (fun i h1 h2 => ?_) (fun i h1 h2 z hz => hz)
      show _ = upW S.w f t r i 0
      unfold upW; rw [if_neg (fun q => t0 q.2.symm)]; exact h.W.gh i h1 h2
    · show S.E i + adds q c i - rel (q i) = upH S.H t (S.H t + 1) i + refs (upW S.w f t r) i
      rw [refs_up _ _ _ _ hf4, he]
      have hb := h.bal i h1 h2
      have e6 : cntR (m :: r) = 1 + cntR r := by simp only [cntR]; rw [if_pos hm0]
      unfold upH
      by_cases e : i = t
      · rw [if_pos e, if_pos e, e6, ← e]; omega
      · rw [if_neg e, if_neg e]; omega
    · have := h.hb i
      have := h.hb t
      show 0 ≤ upH S.H t (S.H t + 1) i ∧ upH S.H t (S.H t + 1) i ≤ _
      unfold upH; push_cast; split <;> omega
    · have := h.eb j; show S.E j ≤ _; push_cast; omega
end Tree.R16
