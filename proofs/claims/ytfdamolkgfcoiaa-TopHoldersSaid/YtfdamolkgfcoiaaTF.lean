/- The arguments of a law's call, as trees. -/
import Derived.Test.YtfdamolkgfcoiaaTE
import Derived.Carry
import Derived.ChangeSame
import Derived.Below
import Derived.Lib.LaidTab
set_option autoImplicit false
set_option linter.unusedVariables false
set_option linter.unusedSimpArgs false
namespace Tree
open Go

/-- The memory as a call finds it: all of it fixed. -/
def Mem.start (w : World) : Mem := { w, k := fun _ _ => .imm 0, ob := fun _ => 0, n := 0 }

/-- Cells that read as told, each of one cell. -/
def Reads (T : Tab) (m : Mem) (lvs : List LV) (cs : List Value) : Prop :=
  lvs.length = cs.length ∧ ∀ (i : Nat) (lv : LV), lvs[i]? = some lv → Rep T m lv (cs.getD i undef) ∧ (cs.getD i undef).oneCell' = true

/-- The tree of a datum of a type. -/
def Typed (P : Program) : Nat → TypeId → List LV → Prop
  | 0, _, _ => False
  | fuel + 1, t, cs => match P.underlying t with
    | some .bool => ∃ b, cs = [.bool b]
    | some (.int k) => ∃ n, cs = [.int k n] ∧ (Lit.int k n).wf = true
    | some .string => ∃ s : ByteArray, cs = [.str s] ∧ s.size ≤ reachBytes
    | some (.slice e) => ∃ xs sp, cs = [.sl false 0 (P.cellsOf e) xs sp] ∧ (∀ x ∈ xs ++ sp, x.length = P.cellsOf e ∧ Typed P fuel e x) ∧ (xs.length + sp.length) * P.bytesOf e ≤ reachBytes
    | some (.struct fs) => cs.length = P.cellsOf t ∧ ∀ f ∈ fs.toList, Typed P fuel f.type ((cs.drop f.offset).take (P.cellsOf f.type))
    | some (.array _ e) => cs.length = P.cellsOf t ∧ ∃ k, P.underlying e = some (.int k) ∧ ∀ c ∈ cs, ∃ n, c = .int k n ∧ (Lit.int k n).wf = true
    | _ => ∃ k, cs = List.replicate k .undef

/-- Parts that stand one behind the other. -/
def cum : Nat → List (Nat × Nat) → Nat → Bool
  | o, [], tot => o == tot
  | o, (off, sz) :: r, tot => off == o && cum (o + sz) r tot

theorem Reads.nil {T : Tab} {m : Mem} : Reads T m [] [] := ⟨rfl, fun i lv hi => by simp at hi⟩
theorem Reads.append {T : Tab} {m : Mem} {a b : List LV} {x y : List Value} (h : Reads T m a x) (h' : Reads T m b y) : Reads T m (a ++ b) (x ++ y) := by
  refine ⟨by simp [h.1, h'.1], fun i lv hi => ?_⟩
  by_cases hlt : i < a.length
  · rw [List.getElem?_append_left hlt] at hi
    have := h.2 i lv hi
    have e : (x ++ y).getD i undef = x.getD i undef := by
      rw [List.getD_eq_getElem?_getD, List.getElem?_append_left (by rw [← h.1]; exact hlt), ← List.getD_eq_getElem?_getD]
    rw [e]; exact this
  · rw [List.getElem?_append_right (by omega)] at hi
    have := h'.2 _ lv hi
    have e : (x ++ y).getD i undef = y.getD (i - a.length) undef := by
      rw [List.getD_eq_getElem?_getD, List.getElem?_append_right (by rw [← h.1]; omega), ← h.1, ← List.getD_eq_getElem?_getD]
    rw [e]; exact this

/-- Parts put together. -/
theorem assemble {T : Tab} {m : Mem} {α : Type} (off sz : α → Nat) (Q : α → List LV → Prop) {cs : List Value} : ∀ (ps : List α) (o : Nat), o ≤ cs.length → cum o (ps.map fun p => (off p, sz p)) cs.length = true →
    (∀ p ∈ ps, ∃ lvs, Q p lvs ∧ Reads T m lvs ((cs.drop (off p)).take (sz p))) →
    ∃ lvs, Reads T m lvs (cs.drop o) ∧ ∀ p ∈ ps, o ≤ off p ∧ Q p ((lvs.drop (off p - o)).take (sz p))
  | [], o, ho, hc, h => by
    simp only [List.map_nil, cum, beq_iff_eq] at hc
    refine ⟨[], ?_, fun p hp => by cases hp⟩
    rw [hc, List.drop_length]; exact Reads.nil
  | p :: ps, o, ho, hc, h => by
    simp only [List.map_cons, cum, Bool.and_eq_true, beq_iff_eq] at hc
    obtain ⟨hoff, hc⟩ := hc
    obtain ⟨l1, q1, r1⟩ := h p (List.mem_cons_self ..)
    have hle : ∀ (l : List (Nat × Nat)) (a tot : Nat), cum a l tot = true → a ≤ tot := by
      intro l
      induction l with
      | nil => intro a tot h; simp only [cum, beq_iff_eq] at h; omega
      | cons x r ih => intro a tot h; simp only [cum, Bool.and_eq_true] at h; have := ih _ _ h.2; omega
    have hfit := hle _ _ _ hc
    obtain ⟨l2, r2, q2⟩ := assemble off sz Q ps (o + sz p) hfit hc (fun q hq => h q (List.mem_cons_of_mem _ hq))
    have hl1 : l1.length = sz p := by rw [r1.1]; simp; omega
    refine ⟨l1 ++ l2, ?_, fun q hq => ?_⟩
    · have e : cs.drop o = (cs.drop (off p)).take (sz p) ++ cs.drop (o + sz p) := by
        rw [hoff, ← List.drop_drop, List.take_append_drop]
      rw [e]; exact r1.append r2
    · rcases List.mem_cons.1 hq with rfl | hq
      · refine ⟨by omega, ?_⟩
        rw [hoff, Nat.sub_self, List.drop_zero, List.take_append_of_le_length (by omega), List.take_of_length_le (by omega)]
        exact q1
      · obtain ⟨h1, h2⟩ := q2 q hq
        refine ⟨by omega, ?_⟩
        have e : (l1 ++ l2).drop (off q - o) = l2.drop (off q - (o + sz p)) := by
          rw [List.drop_append, List.drop_eq_nil_of_le (by omega), List.nil_append, hl1]
          congr 1; omega
        rw [e]; exact h2
end Tree

set_option autoImplicit false
set_option linter.unusedVariables false
set_option linter.unusedSimpArgs false
namespace Tree
open Go

theorem mapM_all {α β : Type} {f : α → Option β} : ∀ {l : List α} {r : List β}, l.mapM f = some r → r.length = l.length ∧ ∀ (i : Nat) (x : α), l[i]? = some x → ∃ y, f x = some y ∧ r[i]? = some y
  | [], r, h => by simp at h; subst h; exact ⟨rfl, fun i x hi => by simp at hi⟩
  | a :: l, r, h => by
    rw [List.mapM_cons] at h
    simp only [Option.bind_eq_bind, Option.bind_eq_some_iff, Option.pure_def, Option.some.injEq] at h
    obtain ⟨y, h1, ys, h2, rfl⟩ := h
    obtain ⟨h3, h4⟩ := mapM_all h2
    refine ⟨by simp [h3], fun i x hi => ?_⟩
    cases i with
    | zero => simp at hi; subst hi; exact ⟨y, h1, rfl⟩
    | succ i => simpa using h4 i x (by simpa using hi)

theorem cells_get {W : World} {a : Addr} {n : Nat} {cs : List Value} (h : W.cells? 0 a n = some cs) : cs.length = n ∧ ∀ j, j < n → W.cell? (a.add j) = some (cs.getD j undef) := by
  unfold World.cells? at h
  rw [if_pos (Nat.zero_le _)] at h
  obtain ⟨h1, h2⟩ := mapM_all h
  refine ⟨by simpa using h1, fun j hj => ?_⟩
  obtain ⟨y, h3, h4⟩ := h2 j j (by simp [hj])
  rw [h3, List.getD_eq_getElem?_getD, h4]; rfl

/-- Types whose data the reading follows. -/
structure Closed (P : Program) (S : TypeId → Bool) : Prop where
  arr : ∀ t n e, S t = true → P.underlying t = some (.array n e) → (∃ k, P.underlying e = some (.int k)) ∧ P.cellsOf e = 1 ∧ P.cellsOf t = n
  fields : ∀ t fs, S t = true → P.underlying t = some (.struct fs) → (∀ f ∈ fs.toList, S f.type = true) ∧ cum 0 (fs.toList.map fun f => (f.offset, P.cellsOf f.type)) (P.cellsOf t) = true
  elem : ∀ t e, S t = true → P.underlying t = some (.slice e) → S e = true ∧ 0 < P.cellsOf e
def closedB (P : Program) (ts : List TypeId) : Bool := ts.all fun t => match P.underlying t with
  | some (.array n e) => (match P.underlying e with | some (.int _) => true | _ => false) && P.cellsOf e == 1 && P.cellsOf t == n
  | some (.struct fs) => fs.toList.all (fun f => ts.contains f.type) && cum 0 (fs.toList.map fun f => (f.offset, P.cellsOf f.type)) (P.cellsOf t)
  | some (.slice e) => ts.contains e && decide (0 < P.cellsOf e)
  | _ => true
theorem closed_of {P : Program} {ts : List TypeId} (h : closedB P ts = true) : Closed P (fun t => ts.contains t) := by
  have key : ∀ t, ts.contains t = true → _ := fun t ht => List.all_eq_true.1 h t (by simpa using ht)
  refine ⟨fun t n e ht hu => ?_, fun t fs ht hu => ?_, fun t e ht hu => ?_⟩
  · have := key t ht
    simp only [hu, Bool.and_eq_true, beq_iff_eq] at this
    obtain ⟨⟨h1, h2⟩, h3⟩ := this
    refine ⟨?_, h2, h3⟩
    split at h1
    · rename_i k hk; exact ⟨k, hk⟩
    · cases h1
  · have := key t ht; simp only [hu, Bool.and_eq_true, List.all_eq_true] at this; exact this
  · have := key t ht; simp only [hu, Bool.and_eq_true, decide_eq_true_eq] at this; exact this
theorem spot_of_cell {W : World} {a : Addr} {v : Value} (h : W.cell? a = some v) : a.spot = none := by
  unfold World.cell? at h
  split at h
  · split at h
    · cases h
    · rename_i hs; simpa using hs
  · cases h
mutual
/-- How many values and letters a tree of data holds. -/
def LV.bulk : LV → Nat
  | .bool _ => 1
  | .int _ _ => 1
  | .str s => s.size + 1
  | .sl _ _ _ xs sp => LV.bulkss xs + LV.bulkss sp + 1
  | .agg cs => LV.bulks cs
  | _ => 0
def LV.bulks : List LV → Nat
  | [] => 0
  | x :: r => x.bulk + LV.bulks r
def LV.bulkss : List (List LV) → Nat
  | [] => 0
  | x :: r => LV.bulks x + LV.bulkss r
end
theorem bulks_append : ∀ (a b : List LV), LV.bulks (a ++ b) = LV.bulks a + LV.bulks b
  | [], b => by simp [LV.bulks]
  | x :: a, b => by simp [LV.bulks, bulks_append a b]; omega
/-- A measure of data. -/
structure Bulky {H : Type} (U : DataW H → Nat) (UA : List (DataW H) → Nat) : Prop where
  str : ∀ b, U (.lit (.string b)) = b.length + 1
  lit : ∀ l, 1 ≤ U (.lit l)
  nil : 1 ≤ U .nil
  slice : ∀ a b, U (.slice a b) = UA a + UA b + 1
  agg : ∀ a, U (.agg a) = UA a + 1
  nilA : UA [] = 0
  consA : ∀ d r, UA (d :: r) = U d + UA r
theorem bulk_rows {H : Type} {U : DataW H → Nat} {UA : List (DataW H) → Nat} (hU : Bulky U UA) : ∀ (xs : List (List LV)) (ds : List (DataW H)), xs.length = ds.length → (∀ (i : Nat) x d, xs[i]? = some x → ds[i]? = some d → LV.bulks x ≤ U d) → LV.bulkss xs ≤ UA ds
  | [], [], _, _ => by simp [LV.bulkss]
  | [], _ :: _, h, _ => by simp at h
  | _ :: _, [], h, _ => by simp at h
  | x :: xs, d :: ds, h, hp => by
    have h1 := hp 0 x d rfl rfl
    have h2 := bulk_rows hU xs ds (by simpa using h) (fun i y e hy he => hp (i + 1) y e (by simpa using hy) (by simpa using he))
    rw [LV.bulkss, hU.consA]; omega
theorem weights_all {H : Type} {P : Program} {e : TypeId} {n : Nat} : ∀ (ds : List (DataW H)) (i : Nat) (d : DataW H), ds[i]? = some d → n ∈ d.weights P e → n ∈ DataW.weightsAll P e ds
  | [], i, d, h, _ => by simp at h
  | x :: r, i, d, h, hn => by
    rw [DataW.weightsAll]
    cases i with
    | zero => simp at h; subst h; exact List.mem_append_left _ hn
    | succ i => exact List.mem_append_right _ (weights_all r i d (by simpa using h) hn)
theorem weights_each {H : Type} {P : Program} {n : Nat} : ∀ (ts : List TypeId) (ds : List (DataW H)) (i : Nat) (t : TypeId) (d : DataW H), ts[i]? = some t → ds[i]? = some d → n ∈ d.weights P t → n ∈ DataW.weightsEach P ts ds
  | [], _, i, _, d, h, _, _ => by simp at h
  | _ :: _, [], i, _, d, _, h, _ => by simp at h
  | t :: ts, x :: r, i, u, d, ht, h, hn => by
    rw [DataW.weightsEach]
    cases i with
    | zero => simp at h ht; subst h; subst ht; exact List.mem_append_left _ hn
    | succ i => exact List.mem_append_right _ (weights_each ts r i u d (by simpa using ht) (by simpa using h) hn)
theorem bulk_fields {H : Type} {U : DataW H → Nat} {UA : List (DataW H) → Nat} (hU : Bulky U UA) {P : Program} (F : Field → Option (DataW H × List MemPlace)) (lvs : List LV) : ∀ (fs : List Field) (off : Nat) (ys : List (DataW H × List MemPlace)), cum off (fs.map fun f => (f.offset, P.cellsOf f.type)) lvs.length = true → fs.mapM F = some ys →
    (∀ f ∈ fs, ∃ y, F f = some y ∧ LV.bulks ((lvs.drop f.offset).take (P.cellsOf f.type)) ≤ U y.1) → LV.bulks (lvs.drop off) ≤ UA (ys.map (·.1))
  | [], off, ys, hc, h, _ => by
    simp only [List.map_nil, cum, beq_iff_eq] at hc
    simp at h; subst h
    simp [hc, LV.bulks]
  | f :: fs, off, ys, hc, h, hp => by
    simp only [List.map_cons, cum, Bool.and_eq_true, beq_iff_eq] at hc
    obtain ⟨e, hc⟩ := hc
    rw [List.mapM_cons] at h
    simp only [Option.bind_eq_bind, Option.bind_eq_some_iff, Option.pure_def, Option.some.injEq] at h
    obtain ⟨y, h1, zs, h2, rfl⟩ := h
    obtain ⟨y', h3, h4⟩ := hp f (List.mem_cons_self ..)
    rw [h1] at h3; injection h3 with h3; subst h3
    have h5 := bulk_fields hU F lvs fs (off + P.cellsOf f.type) zs hc h2 (fun g hg => hp g (List.mem_cons_of_mem _ hg))
    rw [List.map_cons, hU.consA]
    rw [e] at h4
    have h6 : lvs.drop off = (lvs.drop off).take (P.cellsOf f.type) ++ lvs.drop (off + P.cellsOf f.type) := by rw [← List.drop_drop, List.take_append_drop]
    rw [h6, bulks_append]; omega
theorem trod_int {H : Type} {enc : TypeId × Value → H} {P : Program} {W : World} {held : Bool} {fuel : Nat} {e : TypeId} {k : IntKind} (hk : P.underlying e = some (.int k)) {v : Value} {y : DataW H × List MemPlace} (h : DataW.trod enc P W 0 (fun _ => true) held fuel e [v] = some y) : ∃ z, v = .int k z ∧ (Lit.int k z).wf = true ∧ ∃ l, y.1 = .lit l := by
  cases fuel with
  | zero => simp [DataW.trod] at h
  | succ fuel =>
    unfold DataW.trod at h
    rw [hk] at h
    cases v
    case int k' n =>
      dsimp only at h
      split at h
      · rename_i hw
        obtain ⟨rfl, hw⟩ := hw
        cases h
        exact ⟨n, rfl, hw, _, rfl⟩
      · cases h
    all_goals cases h
def toLV : Value → LV
  | .int k n => .int k n
  | _ => .undef
theorem bulks_ints {H : Type} {U : DataW H → Nat} {UA : List (DataW H) → Nat} (hU : Bulky U UA) : ∀ (cs : List LV) (ys : List (DataW H)), cs.length = ys.length → (∀ c ∈ cs, ∃ k n, c = .int k n) → (∀ y ∈ ys, ∃ l, y = .lit l) → LV.bulks cs ≤ UA ys
  | [], _, _, _, _ => by simp [LV.bulks]
  | c :: cs, [], h, _, _ => by simp at h
  | c :: cs, y :: ys, h, hc, hy => by
    have ih := bulks_ints hU cs ys (by simpa using h) (fun x hx => hc x (List.mem_cons_of_mem _ hx)) (fun x hx => hy x (List.mem_cons_of_mem _ hx))
    obtain ⟨k, n, rfl⟩ := hc c (List.mem_cons_self ..)
    obtain ⟨l, rfl⟩ := hy y (List.mem_cons_self ..)
    have := hU.lit l
    simp only [LV.bulks, LV.bulk, hU.consA]; omega
theorem read_trod {H : Type} {enc : TypeId × Value → H} {T : Tab} {W : World} {held : Bool} {S : TypeId → Bool} (hS : Closed T.P S) {U : DataW H → Nat} {UA : List (DataW H) → Nat} (hU : Bulky U UA) :
    ∀ (fuel : Nat) (t : TypeId) (cs : List Value) (r : DataW H × List MemPlace), S t = true →
      DataW.trod enc T.P W 0 (fun _ => true) held fuel t cs = some r → (∀ n ∈ r.1.weights T.P t, n ≤ reachBytes) → ∃ lvs, Typed T.P fuel t lvs ∧ Reads T (Mem.start W) lvs cs ∧ LV.bulks lvs ≤ U r.1
  | 0, t, cs, r, _, h, _ => by simp [DataW.trod] at h
  | fuel + 1, t, cs, r, ht, h, hwt => by
    have one : ∀ (lv : LV) (v : Value), Rep T (Mem.start W) lv v → v.oneCell' = true → Reads T (Mem.start W) [lv] [v] := by
      intro lv v h1 h2
      refine ⟨rfl, fun i lv' hi => ?_⟩
      cases i with
      | zero => simp at hi; subst hi; exact ⟨h1, h2⟩
      | succ i => simp at hi
    unfold DataW.trod at h
    split at h
    · rename_i b hu
      cases h
      exact ⟨[.bool b], by simp [Typed, hu], one _ _ (Rep.bool _) rfl, by simpa [LV.bulks, LV.bulk] using hU.lit _⟩
    · rename_i k k' n hu
      split at h
      · rename_i hk
        obtain ⟨rfl, hw⟩ := hk
        cases h
        exact ⟨[.int k' n], by simp [Typed, hu, hw], one _ _ (Rep.int _ _) rfl, by simpa [LV.bulks, LV.bulk] using hU.lit _⟩
      · cases h
    · rename_i k k' b hu
      exact ⟨[.undef], by simp only [Typed, hu]; exact ⟨1, rfl⟩, one _ _ (Rep.undef _) rfl, by simp [LV.bulks, LV.bulk]⟩
    · rename_i s hu
      split at h
      · rename_i hs
        cases h
        have h1 : s.data.toList.length = s.size := by simp
        have h2 : s.size ≤ reachBytes := hwt _ (by simp only [DataW.weights, List.mem_singleton]; omega)
        exact ⟨[.str s], by simp only [Typed, hu]; exact ⟨s, rfl, h2⟩, one _ _ (Rep.str _) rfl, by simp only [LV.bulks, LV.bulk, hU.str]; omega⟩
      · cases h
    · rename_i e hu
      exact ⟨[.undef], by simp only [Typed, hu]; exact ⟨1, rfl⟩, one _ _ (Rep.undef _) rfl, by simp [LV.bulks, LV.bulk]⟩
    · rename_i e a hu
      exact ⟨[.undef], by simp only [Typed, hu]; exact ⟨1, rfl⟩, one _ _ (Rep.undef _) rfl, by simp [LV.bulks, LV.bulk]⟩
    · rename_i e hu
      cases h
      refine ⟨[.sl false 0 (T.P.cellsOf e) [] []], ?_, one _ _ (Rep.nil _ _ _) rfl, by simpa [LV.bulks, LV.bulk, LV.bulkss] using hU.nil⟩
      simp only [Typed, hu]
      exact ⟨[], [], rfl, (by intro x hx; cases hx), by simp⟩
    · rename_i e a len cap hu
      split at h
      · rename_i hb
        obtain ⟨_, hlc, hcm⟩ := hb
        simp only [if_true] at h
        obtain ⟨elems, h1, h2⟩ := Option.bind_eq_some_iff.1 h
        obtain ⟨rest, h3, h4⟩ := Option.map_eq_some_iff.1 h2
        subst h4
        simp only [DataW.weights, hu] at hwt
        have hlenE : elems.length = len := by simpa using (mapM_all h1).1
        have hlenR : rest.length = cap - len := by simpa using (mapM_all h3).1
        have hbytes : (len + (cap - len)) * T.P.bytesOf e ≤ reachBytes := by
          have := hwt _ (List.mem_cons_self ..)
          simpa [hlenE, hlenR] using this
        obtain ⟨hSe, hz⟩ := hS.elem t e ht hu
        by_cases hc0 : cap = 0
        · have hl0 : len = 0 := by omega
          subst hc0; subst hl0
          refine ⟨[.sl false 0 (T.P.cellsOf e) [] []], ?_, one _ _ (Rep.emp _ _ _ a) rfl, by simp only [LV.bulks, LV.bulk, LV.bulkss, hU.slice]; omega⟩
          simp only [Typed, hu]
          exact ⟨[], [], rfl, (by intro x hx; cases hx), by simp⟩
        have hspot : a.spot = none := by
          have key : ∃ y, ((W.cells? 0 (a.add (0 * T.P.cellsOf e)) (T.P.cellsOf e)).bind (DataW.trod enc T.P W 0 (fun _ => true) held fuel e)) = some y := by
            by_cases hl : 0 < len
            · obtain ⟨_, h5⟩ := mapM_all h1
              obtain ⟨y, h6, _⟩ := h5 0 0 (by simp [hl])
              exact ⟨y, h6⟩
            · obtain ⟨_, h5⟩ := mapM_all h3
              obtain ⟨y, h6, _⟩ := h5 0 0 (by rw [List.getElem?_range (by omega)])
              rw [show len + 0 = 0 by omega] at h6
              exact ⟨y, h6⟩
          obtain ⟨y, hy⟩ := key
          obtain ⟨ecs, h5, h6⟩ := Option.bind_eq_some_iff.1 hy
          have := spot_of_cell ((cells_get h5).2 0 hz)
          simpa [Addr.add] using this
        obtain ⟨b, off, spot⟩ := a
        simp only at hspot
        subst hspot
        -- one element
        have elem : ∀ i, i < cap → ∃ x, x.length = T.P.cellsOf e ∧ Typed T.P fuel e x ∧ (∀ d : DataW H, (elems ++ rest)[i]?.map (·.1) = some d → LV.bulks x ≤ U d) ∧ ∀ (j : Nat) (lv : LV), x[j]? = some lv → ∃ v, W.cell? ⟨b, off + i * T.P.cellsOf e + j, none⟩ = some v ∧ v.oneCell' = true ∧ Rep T (Mem.start W) lv v := by
          intro i hi
          have key : ∃ y, ((W.cells? 0 ((⟨b, off, none⟩ : Addr).add (i * T.P.cellsOf e)) (T.P.cellsOf e)).bind (DataW.trod enc T.P W 0 (fun _ => true) held fuel e)) = some y ∧ (elems ++ rest)[i]? = some y := by
            by_cases hl : i < len
            · obtain ⟨_, h5⟩ := mapM_all h1
              obtain ⟨y, h6, h7⟩ := h5 i i (by simp [hl])
              exact ⟨y, h6, by rw [List.getElem?_append_left (by omega)]; exact h7⟩
            · obtain ⟨_, h5⟩ := mapM_all h3
              obtain ⟨y, h6, h7⟩ := h5 (i - len) (i - len) (by rw [List.getElem?_range (by omega)])
              rw [show len + (i - len) = i by omega] at h6
              exact ⟨y, h6, by rw [List.getElem?_append_right (by omega), hlenE]; exact h7⟩
          obtain ⟨y, hy, hyi⟩ := key
          have hwy : ∀ n ∈ y.1.weights T.P e, n ≤ reachBytes := by
            intro n hn
            refine hwt n (List.mem_cons_of_mem _ ?_)
            by_cases hl : i < len
            · rw [List.getElem?_append_left (by omega)] at hyi
              exact List.mem_append_left _ (weights_all _ i y.1 (by simp [hyi]) hn)
            · rw [List.getElem?_append_right (by omega)] at hyi
              exact List.mem_append_right _ (weights_all _ (i - elems.length) y.1 (by simp [hyi]) hn)
          obtain ⟨ecs, h5, h6⟩ := Option.bind_eq_some_iff.1 hy
          obtain ⟨h7, h8⟩ := cells_get h5
          have hcell : ∀ j, j < T.P.cellsOf e → W.cell? ⟨b, off + i * T.P.cellsOf e + j, none⟩ = some (ecs.getD j undef) := by
            intro j hj
            have := h8 j hj
            rw [Addr.add_lit, Addr.add_lit] at this
            exact this
          obtain ⟨x, t1, t2, t3⟩ := read_trod hS hU fuel e ecs y hSe h6 hwy
          refine ⟨x, by rw [t2.1, h7], t1, fun d hd => by rw [hyi] at hd; cases hd; exact t3, fun j lv hj => ?_⟩
          obtain ⟨q1, q2⟩ := t2.2 j lv hj
          have hjl : j < T.P.cellsOf e := by rw [← h7, ← t2.1]; exact (List.getElem?_eq_some_iff.1 hj).1
          exact ⟨_, hcell j hjl, q2, q1⟩
        let row : Nat → List LV := fun i => if hi : i < cap then Classical.choose (elem i hi) else []
        have hrow : ∀ i, i < cap → (row i).length = T.P.cellsOf e ∧ Typed T.P fuel e (row i) ∧ (∀ d : DataW H, (elems ++ rest)[i]?.map (·.1) = some d → LV.bulks (row i) ≤ U d) ∧ ∀ (j : Nat) (lv : LV), (row i)[j]? = some lv → ∃ v, W.cell? ⟨b, off + i * T.P.cellsOf e + j, none⟩ = some v ∧ v.oneCell' = true ∧ Rep T (Mem.start W) lv v := by
          intro i hi
          have := Classical.choose_spec (elem i hi)
          simp only [row, dif_pos hi]; exact this
        let xs := (List.range len).map row
        let sp := (List.range (cap - len)).map fun j => row (len + j)
        have happ : ∀ i x, (xs ++ sp)[i]? = some x → i < cap ∧ x = row i := by
          intro i x hx
          by_cases hl : i < len
          · rw [List.getElem?_append_left (by simpa [xs] using hl)] at hx
            simp only [xs, List.getElem?_map, List.getElem?_range hl, Option.map_some, Option.some.injEq] at hx
            exact ⟨by omega, hx.symm⟩
          · rw [List.getElem?_append_right (by simpa [xs] using hl)] at hx
            simp only [xs, List.length_map, List.length_range, sp, List.getElem?_map] at hx
            obtain ⟨k, h5, h6⟩ := Option.map_eq_some_iff.1 hx
            have h7 := (List.getElem?_eq_some_iff.1 h5)
            obtain ⟨h8, h9⟩ := h7
            simp at h8 h9
            refine ⟨by omega, ?_⟩
            rw [← h6, ← h9, show len + (i - len) = i by omega]
        refine ⟨[.sl false 0 (T.P.cellsOf e) xs sp], ?_, one _ _ ?_ rfl, ?_⟩
        · simp only [Typed, hu]
          refine ⟨xs, sp, rfl, fun x hx => ?_, by simpa [xs, sp] using hbytes⟩
          obtain ⟨i, hi, rfl⟩ := List.getElem_of_mem hx
          obtain ⟨h5, h6⟩ := happ i _ (List.getElem?_eq_getElem hi)
          rw [h6]
          exact ⟨(hrow i h5).1, (hrow i h5).2.1⟩
        · have hlen : xs.length = len := by simp [xs]
          have := Rep.sl (T := T) (m := Mem.start W) false 0 (T.P.cellsOf e) xs sp b off cap (fun i j => ((W.cell? ⟨b, off + i * T.P.cellsOf e + j, none⟩).getD undef)) (by simp [xs, sp]; omega)
            (fun x hx => by
              obtain ⟨i, hi, rfl⟩ := List.getElem_of_mem hx
              obtain ⟨h5, h6⟩ := happ i _ (List.getElem?_eq_getElem hi)
              rw [h6]; exact (hrow i h5).1)
            (fun i x j lv hx hj => by
              obtain ⟨h5, rfl⟩ := happ i x hx
              obtain ⟨v, g1, g2, g3⟩ := (hrow i h5).2.2.2 j lv hj
              exact ⟨rfl, by rw [g1]; exact g1, by rw [g1]; exact g2⟩)
            (fun i x j lv hx hj => by
              obtain ⟨h5, rfl⟩ := happ i x hx
              obtain ⟨v, g1, g2, g3⟩ := (hrow i h5).2.2.2 j lv hj
              rw [g1]; exact g3) hcm
          rw [hlen] at this
          exact this
        · have b1 := bulk_rows hU xs (elems.map (·.1)) (by simp [xs, hlenE]) (fun i x d hx hd => by
            have hi : i < len := by have := (List.getElem?_eq_some_iff.1 hx).1; simpa [xs] using this
            simp only [xs, List.getElem?_map, List.getElem?_range hi, Option.map_some, Option.some.injEq] at hx
            subst hx
            refine (hrow i (by omega)).2.2.1 d ?_
            rw [List.getElem?_append_left (by omega)]; rw [List.getElem?_map] at hd; exact hd)
          have b2 := bulk_rows hU sp (rest.map (·.1)) (by simp [sp, hlenR]) (fun i x d hx hd => by
            have hi : i < cap - len := by have := (List.getElem?_eq_some_iff.1 hx).1; simpa [sp] using this
            simp only [sp, List.getElem?_map, List.getElem?_range hi, Option.map_some, Option.some.injEq] at hx
            subst hx
            refine (hrow (len + i) (by omega)).2.2.1 d ?_
            rw [List.getElem?_append_right (by omega), hlenE, Nat.add_sub_cancel_left]; rw [List.getElem?_map] at hd; exact hd)
          simp only [LV.bulks, LV.bulk, hU.slice]; omega
      · cases h
    · rename_i cs _ _ fs hu
      split at h
      · rename_i hlen
        obtain ⟨ys, h1, h2⟩ := Option.map_eq_some_iff.1 h
        subst h2
        simp only [DataW.weights, hu] at hwt
        obtain ⟨_, h3⟩ := mapM_all h1
        have hcum : cum 0 (fs.toList.map fun f => (f.offset, T.P.cellsOf f.type)) cs.length = true := by
          rw [hlen]
          exact (hS.fields t fs ht hu).2
        obtain ⟨lvs, g1, g2⟩ := assemble (T := T) (m := Mem.start W) (fun f : Field => f.offset) (fun f => T.P.cellsOf f.type) (fun f l => Typed T.P fuel f.type l ∧ ∃ y, DataW.trod enc T.P W 0 (fun _ => true) held fuel f.type ((cs.drop f.offset).take (T.P.cellsOf f.type)) = some y ∧ LV.bulks l ≤ U y.1) (cs := cs) fs.toList 0 (Nat.zero_le _) hcum (fun f hf => by
          obtain ⟨i, hi, rfl⟩ := List.getElem_of_mem hf
          obtain ⟨y, h5, h6⟩ := h3 i _ (List.getElem?_eq_getElem hi)
          obtain ⟨l, q1, q2, q3⟩ := read_trod hS hU fuel _ _ y ((hS.fields t fs ht hu).1 _ (List.getElem_mem hi)) h5 (fun n hn => hwt n (weights_each _ _ i _ y.1 (by rw [List.getElem?_map, List.getElem?_eq_getElem hi]; rfl) (by rw [List.getElem?_map, h6]; rfl) hn))
          exact ⟨l, ⟨q1, y, h5, q3⟩, q2⟩)
        have hbul := bulk_fields (P := T.P) hU (fun f => DataW.trod enc T.P W 0 (fun _ => true) held fuel f.type ((cs.drop f.offset).take (T.P.cellsOf f.type))) lvs fs.toList 0 ys (by rw [g1.1]; simpa using hcum) h1 (fun f hf => by
          have := (g2 f hf).2.2
          simpa using this)
        refine ⟨lvs, ?_, by simpa using g1, by rw [hU.agg]; simpa using Nat.le_succ_of_le hbul⟩
        simp only [Typed, hu]
        refine ⟨by rw [g1.1]; simpa using hlen, fun f hf => ?_⟩
        have := (g2 f hf).2.1
        simpa using this
      · cases h
    · rename_i cs _ _ n e hu
      obtain ⟨⟨k, hk⟩, he, hn⟩ := hS.arr _ _ _ ht hu
      split at h
      · rename_i hlen
        obtain ⟨ys, h1, h2⟩ := Option.map_eq_some_iff.1 h
        subst h2
        obtain ⟨hl2, h3⟩ := mapM_all h1
        rw [hn] at hlen
        have hint : ∀ (i : Nat) v, cs[i]? = some v → ∃ z, v = .int k z ∧ (Lit.int k z).wf = true ∧ ∃ y l, ys[i]? = some y ∧ y.1 = .lit l := by
          intro i v hv
          have hi : i < n := by rw [← hlen]; exact (List.getElem?_eq_some_iff.1 hv).1
          obtain ⟨y, h5, h6⟩ := h3 i i (by simp [hi])
          have e1 : (cs.drop (i * T.P.cellsOf e)).take (T.P.cellsOf e) = [v] := by
            rw [he, Nat.mul_one]
            apply List.ext_getElem?; intro j
            rw [List.getElem?_take, List.getElem?_drop]
            cases j with
            | zero => simpa using hv
            | succ j => simp
          rw [e1] at h5
          obtain ⟨z, z1, z2, l, z3⟩ := trod_int hk h5
          exact ⟨z, z1, z2, y, l, h6, z3⟩
        refine ⟨cs.map toLV, ?_, ⟨by simp, fun i lv hi => ?_⟩, ?_⟩
        · simp only [Typed, hu]
          refine ⟨by rw [List.length_map, hlen, hn], k, hk, fun c hc => ?_⟩
          obtain ⟨v, hv, rfl⟩ := List.mem_map.1 hc
          obtain ⟨i, hi⟩ := List.getElem?_of_mem hv
          obtain ⟨z, rfl, hw, _⟩ := hint i v hi
          exact ⟨z, rfl, hw⟩
        · rw [List.getElem?_map] at hi
          obtain ⟨v, hv, rfl⟩ := Option.map_eq_some_iff.1 hi
          obtain ⟨z, rfl, _⟩ := hint i v hv
          have : cs.getD i undef = .int k z := by rw [List.getD_eq_getElem?_getD, hv]; rfl
          rw [this]
          exact ⟨.int _ _, rfl⟩
        · have := bulks_ints hU (cs.map toLV) (ys.map (·.1)) (by simp [hl2, hlen]) (fun c hc => by
            obtain ⟨v, hv, rfl⟩ := List.mem_map.1 hc
            obtain ⟨i, hi⟩ := List.getElem?_of_mem hv
            obtain ⟨z, rfl, _⟩ := hint i v hi
            exact ⟨k, z, rfl⟩) (fun y hy => by
            obtain ⟨y', hy', rfl⟩ := List.mem_map.1 hy
            obtain ⟨i, hi⟩ := List.getElem?_of_mem hy'
            have hil : i < cs.length := by
              have := (List.getElem?_eq_some_iff.1 hi).1
              rw [hl2] at this; simpa [hlen] using this
            obtain ⟨z, _, _, y2, l, h8, h9⟩ := hint i _ (List.getElem?_eq_getElem hil)
            rw [hi] at h8; cases h8
            exact ⟨l, h9⟩)
          rw [hU.agg]; omega
      · cases h
    all_goals first
      | (cases h; done)
      | (have hu := ‹T.P.underlying t = some _›
         exact ⟨[.undef], by simp only [Typed, hu]; exact ⟨1, rfl⟩, one _ _ (Rep.undef _) rfl, by simp [LV.bulks, LV.bulk]⟩)
end Tree

set_option autoImplicit false
set_option linter.unusedVariables false
set_option linter.unusedSimpArgs false
namespace Tree
open Go Go.RowKit Go.ChangeShapes

theorem below_of_post {W : World} {m' : Mem} (h : Post 0 (Mem.start W) m') : Below W.heap.size W m'.w := by
  refine ⟨h.os, h.tape, h.output, h.size, fun k hk => ?_⟩
  rcases h.keep k hk with e | ⟨vs, vs', ty, e1, e2, e3, e4⟩ | ⟨es, es', e1, e2, e5, e3⟩
  · exact e
  · have : vs' = vs := by
      apply Array.ext_getElem?; intro o; exact e4 o (.inr (.inl ⟨0, rfl⟩))
    subst this
    exact e2.trans e1.symm
  · exact absurd (.inr (.inl ⟨0, rfl⟩)) e3

/-- A law's call, out of what E says of it. -/
theorem law_calls {T : Tab} {E : Env} {fid g n : Nat} {W : World} {vals : Array Value} {lvs : List LV} {ob' : Obs} (hOk : EnvOk T E) (hfn : T.fn fid = some g) (hl : lvs.length = vals.size)
    (hA : ∀ (j : Nat) (lv : LV), lvs[j]? = some lv → Rep T (Mem.start W) lv (vals.getD j undef) ∧ lv.ownless = true) (hG : Globs T E.gl (Mem.start W)) (hn : LV.noLs lvs = true) (hc : call E n g lvs [] 0 = some (.bool true, ob')) :
    Calls T.P fid vals W (fun e W' => e = .returned (.bool true) ∧ Below W.heap.size W W') := by
  have := call_sound hOk hc hn fid (Mem.start W) vals hfn hG ⟨hl, fun j lv hj => ⟨(hA j lv hj).1, Owns.of_ownless (hA j lv hj).2⟩⟩ ⟨rfl, fun id cs hi => by simp at hi, fun id i l z xs sp cs hi => by simp at hi⟩
  refine Calls.mono this (fun e w' he => ?_)
  cases e with
  | returned v =>
    obtain ⟨m', rfl, p1, p2, p3, p4⟩ := he
    cases p3
    exact ⟨rfl, below_of_post p1⟩
  | panicked ch => exact he.elim
  | outgrown => exact he.elim

section
variable {H : Type} {enc : TypeId × Value → H} {P : Program}
theorem trodAll_below {W W' : World} (hl : laidOutB P = true) (hb : Below W.heap.size W W') : ∀ (ts : List TypeId) (vs : List Value) (ds : List (DataW H)) (ps : List MemPlace), (∀ t ∈ ts, P.readableRec t = true ∧ t < P.types.size) → (∀ p ∈ ps, p.block < W.heap.size) →
    DataW.TrodAll enc P W 0 (fun _ => true) true ts vs ds ps → DataW.TrodAll enc P W' 0 (fun b => decide (b < W.heap.size)) true ts vs ds ps
  | [], [], [], ps, _, _, h => h
  | t :: ts, v :: vs, d :: ds, ps, hr, hp, h => by
    obtain ⟨p, q, h1, h2, rfl⟩ := h
    refine ⟨p, q, Below.trod hl (hr t (List.mem_cons_self ..)).1 (hr t (List.mem_cons_self ..)).2 h1 hb (fun x hx => hp x (List.mem_append_left _ hx)), ?_, rfl⟩
    exact trodAll_below hl hb ts vs ds q (fun u hu => hr u (List.mem_cons_of_mem _ hu)) (fun x hx => hp x (List.mem_append_right _ hx)) h2
  | [], [], _ :: _, ps, _, _, h => h.elim
  | [], _ :: _, _, ps, _, _, h => h.elim
  | _ :: _, [], _, ps, _, _, h => h.elim
  | _ :: _, _ :: _, [], ps, _, _, h => h.elim

/-- What the row asks behind a law's call. -/
theorem law_post {f : Func} {s : ChangeSpec} {W W' : World} {args : Array Value} {ds gs : List (DataW H)} {before : List MemPlace} {tb : TypeId} (hl : laidOutB P = true) (hr : ∀ t ∈ f.params.toList, P.readableRec t = true ∧ t < P.types.size) (hv : s.vars = [])
    (hrt : f.resultTypes = #[tb]) (htb : P.underlying tb = some .bool) (hs : s.fn H ds = { results := [.lit (.bool true)], args := ds })
    (hW : DataW.Whole enc P f.params.toList s.vars false W args.toList ds gs before) (hb : Below W.heap.size W W') : s.post enc P f false true false false W args (.bool true) W' := by
  have hW0 := hW
  have hlt := fun p hp => hW.lt p hp
  obtain ⟨p, q, hA, hV, rfl, hfz, hnd⟩ := hW
  have hgs : gs = [] ∧ q = [] := by
    rw [hv] at hV
    cases gs with
    | nil => exact ⟨rfl, hV⟩
    | cons _ _ => exact hV.elim
  obtain ⟨rfl, rfl⟩ := hgs
  have e : s.fn H (ds ++ []) = { results := [.lit (.bool true)], args := ds } := by rw [List.append_nil]; exact hs
  refine ⟨ds, [], p ++ [], [], p, [], hW0, ?_, ?_, ?_, hb.frame _, fun h => by cases h⟩
  · rw [e, hrt]
    exact ⟨[], [], ⟨1, by simp [DataW.trod, htb, Value.cells]⟩, rfl, rfl⟩
  · rw [e]
    exact trodAll_below hl hb _ _ _ _ hr (fun x hx => hlt x (List.mem_append_left _ hx)) hA
  · rw [e, hv]; rfl
end
end Tree

set_option autoImplicit false
set_option linter.unusedVariables false
set_option linter.unusedSimpArgs false
namespace Tree
open Go
def ArgTy (P : Program) (t : TypeId) (lv : LV) : Prop := ∃ fuel cs, Typed P fuel t cs ∧ (match P.underlying t with
  | some (.struct _) => lv = .agg cs
  | some (.array _ _) => lv = .agg cs
  | _ => cs = [lv])
theorem cell_not_agg {P : Program} {W : World} {base : Nat} {t : TypeId} {cs : Array Value} (h : Cell.okWide P W .any base t (.agg cs)) : False := by
  unfold Cell.okWide at h
  split at h
  all_goals first
    | (rename_i h1 h2; cases h2; done)
    | skip
  all_goals
    unfold Cell.ok at h
    split at h
    all_goals first
      | (rename_i h1 h2; cases h2; done)
      | exact h
      | skip
theorem read_arg {H : Type} {enc : TypeId × Value → H} {T : Tab} {W : World} {S : TypeId → Bool} (hS : Closed T.P S) {U : DataW H → Nat} {UA : List (DataW H) → Nat} (hU : Bulky U UA) {base : Nat} {t : TypeId} {v : Value} {d : DataW H} {p : List MemPlace} (ht : S t = true) (hok : Value.okWide T.P W .any base t v)
    (h : DataW.Trod enc T.P W 0 (fun _ => true) true t v d p) (hwt : ∀ n ∈ d.weights T.P t, n ≤ reachBytes) : ∃ lv, ArgTy T.P t lv ∧ Rep T (Mem.start W) lv v ∧ lv.bulk ≤ U d := by
  obtain ⟨fuel, h⟩ := h
  obtain ⟨cs, h1, h2, hb⟩ := read_trod hS hU fuel t _ _ ht h hwt
  by_cases hst : ∃ fs, T.P.underlying t = some (.struct fs)
  · obtain ⟨fs, hu⟩ := hst
    unfold Value.okWide at hok
    rw [hu] at hok
    obtain ⟨vs, rfl, _, _⟩ := hok
    refine ⟨.agg cs, ⟨fuel, cs, h1, by rw [hu]⟩, .agg cs vs (by simpa [Value.cells] using h2.1) (fun i lv hi => ?_), by simpa [LV.bulk] using hb⟩
    have := (h2.2 i lv hi).1
    simpa [Value.cells, Array.getD_eq_getD_getElem?, List.getD_eq_getElem?_getD] using this
  · by_cases har : ∃ n e, T.P.underlying t = some (.array n e)
    · obtain ⟨n, e, hu⟩ := har
      unfold Value.okWide at hok
      rw [hu] at hok
      obtain ⟨vs, rfl, _, _⟩ := hok
      refine ⟨.agg cs, ⟨fuel, cs, h1, by rw [hu]⟩, .agg cs vs (by simpa [Value.cells] using h2.1) (fun i lv hi => ?_), by simpa [LV.bulk] using hb⟩
      have := (h2.2 i lv hi).1
      simpa [Value.cells, Array.getD_eq_getD_getElem?, List.getD_eq_getElem?_getD] using this
    have hna : ∀ n e, T.P.underlying t ≠ some (.array n e) := fun n e q => har ⟨n, e, q⟩
    have hcell : Cell.okWide T.P W .any base t v := by
      unfold Value.okWide at hok
      split at hok
      · rename_i fs hu; exact absurd ⟨fs, hu⟩ hst
      · rename_i n e hu; exact absurd hu (hna n e)
      · exact hok
    have hv : v.cells = #[v] := by
      cases v with
      | agg vs => exact (cell_not_agg hcell).elim
      | _ => rfl
    rw [hv] at h2
    obtain ⟨hl, hr⟩ := h2
    obtain ⟨lv, rfl⟩ : ∃ lv, cs = [lv] := List.length_eq_one_iff.1 (by simpa using hl)
    refine ⟨lv, ⟨fuel, [lv], h1, ?_⟩, by simpa using (hr 0 lv rfl).1, by simpa [LV.bulks] using hb⟩
    cases hu : T.P.underlying t with
    | none => rfl
    | some u => cases u with
      | struct fs => exact absurd ⟨_, hu⟩ hst
      | array n e => exact absurd hu (hna _ _)
      | _ => rfl
theorem read_args {H : Type} {enc : TypeId × Value → H} {T : Tab} {W : World} {S : TypeId → Bool} (hS : Closed T.P S) {U : DataW H → Nat} {UA : List (DataW H) → Nat} (hU : Bulky U UA) {base : Nat} : ∀ (ts : List TypeId) (vs : List Value) (ds : List (DataW H)) (ps : List MemPlace), (∀ t ∈ ts, S t = true) →
    (∀ (j : Nat) t v, ts[j]? = some t → vs[j]? = some v → Value.okWide T.P W .any base t v) → DataW.TrodAll enc T.P W 0 (fun _ => true) true ts vs ds ps → (∀ n ∈ DataW.weightsEach T.P ts ds, n ≤ reachBytes) →
    ∃ lvs : List LV, lvs.length = vs.length ∧ LV.bulks lvs ≤ UA ds ∧ (∀ (j : Nat) t lv, ts[j]? = some t → lvs[j]? = some lv → ArgTy T.P t lv) ∧ ∀ (j : Nat) lv v, lvs[j]? = some lv → vs[j]? = some v → Rep T (Mem.start W) lv v
  | [], [], [], ps, _, _, _, _ => ⟨[], rfl, by simp [LV.bulks], by simp, by simp⟩
  | t :: ts, v :: vs, d :: ds, ps, hs, hok, h, hwt => by
    obtain ⟨p, q, h1, h2, _⟩ := h
    rw [DataW.weightsEach] at hwt
    obtain ⟨lv, a1, a2, a3⟩ := read_arg hS hU (hs t (List.mem_cons_self ..)) (hok 0 t v rfl rfl) h1 (fun n hn => hwt n (List.mem_append_left _ hn))
    obtain ⟨lvs, b1, b4, b2, b3⟩ := read_args hS hU ts vs ds q (fun u hu => hs u (List.mem_cons_of_mem _ hu)) (fun j t v ht hv => hok (j + 1) t v (by simpa using ht) (by simpa using hv)) h2 (fun n hn => hwt n (List.mem_append_right _ hn))
    refine ⟨lv :: lvs, by simp [b1], by rw [LV.bulks, hU.consA]; omega, fun j u lv' hj hl => ?_, fun j lv' v' hl hv => ?_⟩
    · cases j with
      | zero => simp at hj hl; subst hj; subst hl; exact a1
      | succ j => exact b2 j u lv' (by simpa using hj) (by simpa using hl)
    · cases j with
      | zero => simp at hl hv; subst hl; subst hv; exact a2
      | succ j => exact b3 j lv' v' (by simpa using hl) (by simpa using hv)
  | [], [], _ :: _, ps, _, _, h, _ => h.elim
  | [], _ :: _, _, ps, _, _, h, _ => h.elim
  | _ :: _, [], _, ps, _, _, h, _ => h.elim
  | _ :: _, _ :: _, [], ps, _, _, h, _ => h.elim

inductive Sh where
  | b
  | i (k : IntKind)
  | s
  | sl (e : TypeId)
def shFs (P : Program) (K : TypeId → Option (List Sh)) (tot : Nat) : List Field → Nat → Option (List Sh)
  | [], off => if off = tot then some [] else none
  | f :: r, off => if f.offset = off then (K f.type).bind fun k => if P.cellsOf f.type = k.length then (shFs P K tot r (off + k.length)).map (k ++ ·) else none else none
def shOf (P : Program) : Nat → TypeId → Option (List Sh)
  | 0, _ => none
  | n + 1, t => match P.underlying t with
    | some .bool => some [.b]
    | some (.int k) => some [.i k]
    | some .string => some [.s]
    | some (.slice e) => some [.sl e]
    | some (.struct fs) => shFs P (shOf P n) (P.cellsOf t) fs.toList 0
    | some (.array m e) => match P.underlying e with
      | some (.int k) => if P.cellsOf t = m then some (List.replicate m (.i k)) else none
      | _ => none
    | _ => none
def ShOk (P : Program) : Sh → LV → Prop
  | .b, c => ∃ b, c = .bool b
  | .i k, c => ∃ n, c = .int k n ∧ (Lit.int k n).wf = true
  | .s, c => ∃ s : ByteArray, c = .str s ∧ s.size ≤ reachBytes
  | .sl e, c => ∃ xs sp, c = .sl false 0 (P.cellsOf e) xs sp ∧ (∀ x ∈ xs ++ sp, x.length = P.cellsOf e ∧ ∃ fuel, Typed P fuel e x) ∧ (xs.length + sp.length) * P.bytesOf e ≤ reachBytes
def ShsOk (P : Program) : List Sh → List LV → Prop
  | [], [] => True
  | a :: r, c :: cs => ShOk P a c ∧ ShsOk P r cs
  | _, _ => False
theorem ShsOk.append {P : Program} : ∀ (a b : List Sh) (cs ds : List LV), ShsOk P a cs → ShsOk P b ds → ShsOk P (a ++ b) (cs ++ ds)
  | [], b, [], ds, _, h => h
  | x :: a, b, c :: cs, ds, h1, h2 => ⟨h1.1, ShsOk.append a b cs ds h1.2 h2⟩
  | [], _, _ :: _, _, h, _ => h.elim
  | _ :: _, _, [], _, h, _ => h.elim
theorem shFs_ok {P : Program} {K : TypeId → Option (List Sh)} {fuel : Nat} (IH : ∀ t k cs, K t = some k → Typed P fuel t cs → ShsOk P k cs) (cs : List LV) : ∀ (fs : List Field) (off : Nat) (sh : List Sh), off ≤ cs.length → (∀ f ∈ fs, Typed P fuel f.type ((cs.drop f.offset).take (P.cellsOf f.type))) →
    shFs P K cs.length fs off = some sh → ShsOk P sh (cs.drop off)
  | [], off, sh, hl, _, h => by
    simp only [shFs] at h
    split at h
    · rename_i e; cases h
      rw [e, List.drop_length]; trivial
    · cases h
  | f :: fs, off, sh, hl, hf, h => by
    simp only [shFs] at h
    split at h
    · rename_i e
      obtain ⟨k, hk, h⟩ := Option.bind_eq_some_iff.1 h
      split at h
      · rename_i e2
        obtain ⟨r, hr, rfl⟩ := Option.map_eq_some_iff.1 h
        have h1 := IH _ k _ hk (hf f (List.mem_cons_self ..))
        rw [e, e2] at h1
        have hlen : ∀ (a : List Sh) (c : List LV), ShsOk P a c → c.length = a.length := by
          intro a
          induction a with
          | nil => intro c hc; cases c with
            | nil => rfl
            | cons _ _ => exact hc.elim
          | cons x a ih => intro c hc; cases c with
            | nil => exact hc.elim
            | cons y c => simp [ih c hc.2]
        have hle : off + k.length ≤ cs.length := by
          have := hlen _ _ h1
          simp at this; omega
        have h2 := shFs_ok IH cs fs (off + k.length) r hle (fun g hg => hf g (List.mem_cons_of_mem _ hg)) hr
        have := ShsOk.append _ _ _ _ h1 h2
        rw [← List.drop_drop, List.take_append_drop] at this
        exact this
      · cases h
    · cases h
theorem ints_sh {P : Program} {k : IntKind} : ∀ (cs : List LV), (∀ c ∈ cs, ∃ n, c = .int k n ∧ (Lit.int k n).wf = true) → ShsOk P (List.replicate cs.length (.i k)) cs
  | [], _ => trivial
  | c :: cs, h => ⟨h c (List.mem_cons_self ..), ints_sh cs fun x hx => h x (List.mem_cons_of_mem _ hx)⟩
theorem sh_ok {P : Program} : ∀ (n fuel : Nat) (t : TypeId) (sh : List Sh) (cs : List LV), shOf P n t = some sh → Typed P fuel t cs → ShsOk P sh cs
  | 0, _, _, _, _, h, _ => by simp [shOf] at h
  | n + 1, 0, _, _, _, _, h => h.elim
  | n + 1, fuel + 1, t, sh, cs, h, ht => by
    unfold shOf at h
    unfold Typed at ht
    split at h
    · rename_i hu; rw [hu] at ht; cases h
      obtain ⟨b, rfl⟩ := ht
      exact ⟨⟨b, rfl⟩, trivial⟩
    · rename_i hu; rw [hu] at ht; cases h
      obtain ⟨b, rfl, hw⟩ := ht
      exact ⟨⟨b, rfl, hw⟩, trivial⟩
    · rename_i hu; rw [hu] at ht; cases h
      obtain ⟨b, rfl, hw⟩ := ht
      exact ⟨⟨b, rfl, hw⟩, trivial⟩
    · rename_i hu; rw [hu] at ht; cases h
      obtain ⟨xs, sp, rfl, h1, h2⟩ := ht
      exact ⟨⟨xs, sp, rfl, fun x hx => ⟨(h1 x hx).1, fuel, (h1 x hx).2⟩, h2⟩, trivial⟩
    · rename_i fs hu; rw [hu] at ht
      obtain ⟨hl, hf⟩ := ht
      rw [← hl] at h
      have := shFs_ok (K := shOf P n) (fun t k cs hk hc => sh_ok n fuel t k cs hk hc) cs fs.toList 0 sh (Nat.zero_le _) hf h
      simpa using this
    · rename_i m e hu; rw [hu] at ht
      obtain ⟨hl, k, hk, hi⟩ := ht
      rw [hk] at h
      dsimp only at h
      split at h
      · rename_i hm
        cases h
        rw [← hm, ← hl]
        exact ints_sh cs hi
      · cases h
    · cases h
theorem ShsOk.cons {P : Program} {a : Sh} {r : List Sh} {cs : List LV} (h : ShsOk P (a :: r) cs) : ∃ c cs', cs = c :: cs' ∧ ShOk P a c ∧ ShsOk P r cs' := by
  cases cs with
  | nil => exact h.elim
  | cons c cs => exact ⟨c, cs, rfl, h.1, h.2⟩
theorem ShsOk.nil {P : Program} {cs : List LV} (h : ShsOk P [] cs) : cs = [] := by
  cases cs with
  | nil => rfl
  | cons c cs => exact h.elim
theorem arg_plain {P : Program} {t : TypeId} {lv : LV} {n : Nat} {a : Sh} (hs : shOf P n t = some [a]) (hu : (match P.underlying t with | some (.struct _) => true | some (.array _ _) => true | _ => false) = false) (h : ArgTy P t lv) : ShOk P a lv := by
  obtain ⟨fuel, cs, h1, h2⟩ := h
  have h3 := sh_ok n fuel t [a] cs hs h1
  have e : cs = [lv] := by
    revert h2
    cases hq : P.underlying t with
    | none => exact id
    | some u => cases u <;> first | exact id | (rw [hq] at hu; cases hu; done)
  subst e
  exact h3.1
end Tree

set_option autoImplicit false
set_option linter.unusedVariables false
set_option linter.unusedSimpArgs false
namespace Tree
open Go
end Tree
