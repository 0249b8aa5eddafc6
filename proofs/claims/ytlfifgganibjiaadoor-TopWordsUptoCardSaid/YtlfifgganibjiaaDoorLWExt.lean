/- TopWords: its environment is the program's; lex.number by its contract. -/
import Derived.Test.YtlfifgganibjiaaDoorTX
import Derived.Test.YtlfifgganibjiaaDoorLWChk
import Derived.Test.YtlfifgganibjiaaDoorTE
import Derived.Test.YtlfifgganibjiaaDoorExtV
import Derived.Test.YtlfifgganibjiaaDoorLWNum
set_option autoImplicit false
set_option linter.unusedVariables false
namespace Tree
open Go Go.RowKit Go.Proofs
/-- Behind a call of which only 'Below' is known. -/
theorem below_postW {T : Tab} {pb : Nat} {m : Mem} {ob : Obs} {w' : World} (hb : Below m.w.heap.size m.w w') (hO : ObjsOk T ob m) : ∃ m' : Mem, m'.w = w' ∧ Post pb m m' ∧ ObjsOk T ob m' := by
  let mk : Mem := { w := w', k := fun b o => if b < m.w.heap.size then m.k b o else .other, ob := m.ob, n := m.n }
  have hk : ∀ b o, b < m.w.heap.size → mk.k b o = m.k b o := fun b o hlt => if_pos hlt
  have hext : m.ext mk := by
    refine ⟨⟨fun b o l u hc hi => ?_, Nat.le_refl _, fun _ _ => rfl⟩, fun b hlt => hb.block b hlt, hk⟩
    have hlt := cell_lt hc
    refine ⟨by rw [hk b o hlt]; exact hi, ?_⟩
    rw [← hc]; exact World.cell?_of_block (hb.block b hlt)
  have hpost : Post pb m mk := ⟨hb.os, hb.tape, hb.output, hb.size, fun b hlt => .inl (hb.block b hlt), fun b o hlt _ => if_pos hlt, Nat.le_refl _, fun _ _ => rfl, fun _ h1 h2 => absurd h1 (Nat.not_le.2 h2)⟩
  exact ⟨mk, rfl, hpost, hO.ext hext rfl⟩
theorem onlyW_353 : nuTableW.all (fun e => e.2 != 353 || e.1 == 29) = true := by decide +kernel
theorem noW_39 : nuTableW.all (fun e => e.2 != 39) = true := by decide +kernel
theorem noW_564 : nuTableW.all (fun e => e.2 != 564) = true := by decide +kernel
theorem num_extW {E : Env} (args : List LV) (r : LV) (ob : Obs) (pb : Nat) (hF : numF args ob = some r) : CallOk tabW E 353 args ob pb r ob := by
  intro f m vals hf hG hA hO
  obtain rfl : f = 29 := fn_only (T := tabW) onlyW_353 hf
  unfold numF at hF
  split at hF
  · rename_i s
    split at hF
    · rename_i hs
      obtain ⟨hlen, hA⟩ := hA
      obtain ⟨hr, _⟩ := hA 0 _ rfl
      obtain ⟨v0, rfl⟩ : ∃ v0, vals = #[v0] := by
        have : vals.size = 1 := by simpa using hlen.symm
        exact ⟨vals[0], by
          apply Array.ext
          · simp [this]
          · intro i h1 h2
            obtain rfl : i = 0 := by omega
            rfl⟩
      have hr : Rep tabW m (.str s) v0 := by simpa using hr
      cases hr
      have hrep : ∀ (m' : Mem) (n : Int) (b : Bool), Rep tabW m' (.tup [.int .i64 n, .bool b]) (.tuple #[.int .i64 n, .bool b]) := fun m' n b => Rep.tup _ _ rfl fun i lv hi => by
        rcases i with _ | _ | i
        · simp at hi; subst hi; exact .int _ _
        · simp at hi; subst hi; exact .bool _
        · simp at hi
      unfold numF0 at hF
      split at hF
      · rename_i v hv
        injection hF with hF; subst hF
        refine Calls.mono (number_ok s hs v hv m.w) (fun e w' he => ?_)
        obtain ⟨rfl, hb⟩ := he
        obtain ⟨m', h1, h2, h3⟩ := below_postW (T := tabW) (pb := pb) hb hO
        exact ⟨m', h1, h2, h3, hrep _ _ _, trivial⟩
      · rename_i hv
        injection hF with hF; subst hF
        obtain ⟨l, tp, p, h0, hc⟩ := hG.2 2 (by rfl)
        refine Calls.mono (number_range s hs hv tp p m.w hc) (fun e w' he => ?_)
        obtain ⟨rfl, hb⟩ := he
        obtain ⟨m', h1, h2, h3⟩ := below_postW (T := tabW) (pb := pb) hb hO
        exact ⟨m', h1, h2, h3, hrep _ _ _, trivial⟩
      · cases hF
    · cases hF
  · cases hF
theorem env2rW_ok : EnvOk tabW env2r where
  tab := tabW_tab
  mixed := tabW_mixed
  eq := tabW_eq
  code := code_of (fun e he => List.all_eq_true.1 tabW_code2 e he)
  ext := by
    intro g F hg args r ob pb hF
    obtain ⟨rfl, rfl⟩ := env2r_ext g F hg
    exact num_extW args r ob pb hF
theorem glW (g : Nat) : LV.noRefs 0 (env2r.gl g) = true := by
  match g with
  | 0 => decide
  | g + 1 => rfl
theorem env1_extW (g : Nat) (F : List LV → Obs → Option LV) (hg : env1.fns g = some (.ext F)) : g = 564 ∨ g = 39 := by
  simp only [env1] at hg
  split at hg
  · rename_i h; exact .inl (Nat.eq_of_beq_eq_true h)
  · split at hg
    · rename_i h; exact .inr (Nat.eq_of_beq_eq_true h)
    · exact (lookE_ext hg).elim
theorem envW_ok : EnvOk tabW envW where
  tab := tabW_tab
  mixed := tabW_mixed
  eq := tabW_eq
  code := code_of (fun e he => List.all_eq_true.1 tabW_code e he)
  ext := by
    intro g F hg args r ob pb hF
    simp only [envW] at hg
    split at hg
    · rename_i e h
      injection hg with hg; subst hg
      rcases env1_extW g F h with rfl | rfl
      · exact callOk_none noW_564 args r ob pb
      · exact callOk_none noW_39 args r ob pb
    · split at hg
      · rename_i e h
        injection hg with hg; subst hg
        have h' : (match ([335, 337] : List Nat).contains g with | true => some (.ext (frzF env2r g)) | false => env2r.fns g) = some (.ext F) := h
        split at h'
        · injection h' with h'; injection h' with h'; subst h'
          exact frz_ext env2rW_ok gl2W.symm glW hF pb
        · obtain ⟨rfl, rfl⟩ := env2r_ext g F h'
          exact num_extW args r ob pb hF
      · exact (lookE_ext hg).elim
end Tree
