/- The table of signs, a package variable that the rows list: its cells. -/
import Derived.Test.YtlfifgganibjiaaDoorL1Env
import Derived.Test.YtlfifgganibjiaaDoorTF
import Derived.Test.YtlfifgganibjiaaDoorTG
set_option autoImplicit false
set_option linter.unusedVariables false
namespace Tree
open Go
theorem eq_bytes {s : ByteArray} {z : List UInt8} (h : s.data.toList = z) : s = ⟨z.toArray⟩ := by
  obtain ⟨⟨l⟩⟩ := s; simp at h; subst h; rfl
def signBytes : List (List UInt8) := [[61],[58,61],[64],[43],[45],[42],[60],[61,60],[62],[62,61],[61,58,61],[61,92,61]]
theorem signs_eq : signs = signBytes.map fun z => LV.str ⟨z.toArray⟩ := by rfl
def signsD : DataW Unit := .agg [.lit (.string [61]), .lit (.string [58, 61]), .lit (.string [64]), .lit (.string [43]), .lit (.string [45]), .lit (.string [42]), .lit (.string [60]), .lit (.string [61, 60]), .lit (.string [62]), .lit (.string [62, 61]), .lit (.string [61, 58, 61]), .lit (.string [61, 92, 61])]
theorem globs_signs {T : Tab} {gl : Nat → List LV} {W : World} {name : String} {rest : List (String × DataW Unit)} {g : Nat} {t e : TypeId} (hgT : T.glT = [(g, 0)]) (hif : T.ifs = [] := by rfl) (hgl : gl 0 = signs) (hd : signsD = .agg (signBytes.map fun z => .lit (.string z)))
    (hg : T.P.globalNamed name = some g) (hty : (T.P.globals[g]?).map (·.type) = some t) (ht : T.P.underlying t = some (.array 12 e)) (he : T.P.underlying e = some .string) (hce : T.P.cellsOf e = 1) (hct : T.P.cellsOf t = 12)
    (h : laidMet T.P ((name, signsD) :: rest) W) : Globs T gl (Mem.start W) := by
  rw [hd] at h
  have key := strs_of_head (P := T.P) (name := name) (zs := signBytes) hg hty ht he hce hct h
  refine ⟨?_, fun g hg => by rw [hif] at hg; simp at hg⟩
  intro g' h' hgh
  have hgh : (g', h') = (g, 0) := by rw [hgT] at hgh; simpa using hgh
  obtain ⟨rfl, rfl⟩ := Prod.mk.inj hgh
  have e0 : gl 0 = signBytes.map fun z => LV.str ⟨z.toArray⟩ := hgl.trans signs_eq
  rw [e0]
  have hcell : ∀ (j : Nat) lv, (signBytes.map fun z => LV.str ⟨z.toArray⟩)[j]? = some lv → ∃ s : ByteArray, W.cell? ⟨g', j, none⟩ = some (.string s) ∧ lv = .str s := by
    intro j lv hj
    rw [List.getElem?_map] at hj
    obtain ⟨z, hz, rfl⟩ := Option.map_eq_some_iff.1 hj
    obtain ⟨s, h1, h2⟩ := key j z hz
    exact ⟨s, h1, by rw [eq_bytes h2]⟩
  refine Rep.iptr 0 _ 0 g' 0 (fun j => (W.cell? ⟨g', j, none⟩).getD undef) (fun j lv hj => ?_) (fun j lv hj => ?_)
  · obtain ⟨s, h1, rfl⟩ := hcell j lv hj
    refine ⟨rfl, ?_, by rw [h1]; rfl⟩
    rw [Nat.zero_add, h1]; exact h1
  · obtain ⟨s, h1, rfl⟩ := hcell j lv hj
    rw [h1]; exact .str s
end Tree
