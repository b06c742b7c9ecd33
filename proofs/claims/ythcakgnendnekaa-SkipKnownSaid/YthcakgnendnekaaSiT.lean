/- What Set leaves of a list of ints: keys, values, heights. -/
import Derived.Test.YthcakgnendnekaaSiG
open Go.RowKit Go.Cph Go.Cph.Skip
set_option linter.unusedVariables false
set_option linter.unusedSimpArgs false
namespace Go.Proofs.Try.SkI

/-- Keys, values, heights, in the row in which the keys came. -/
def its (nodes : List (Nd V)) : List (ByteArray × V × Nat) := nodes.map fun x => (x.key, x.val, x.ht)
def putIt (l : List (ByteArray × V × Nat)) (k : ByteArray) (x : V) (h : Nat) : List (ByteArray × V × Nat) :=
  if l.any (fun e => decide (e.1 = k)) then l.map (fun e => if e.1 = k then (k, x, e.2.2) else e) else l ++ [(k, x, h)]
def hasIt (l : List (ByteArray × V × Nat)) (k : ByteArray) : Bool := l.any fun e => decide (e.1 = k)
theorem IsSet.its {nodes nodes' : List (Nd V)} {key : ByteArray} {x : V} {height : Int} {fresh : Bool} (h : IsSet nodes nodes' key x height fresh)
    (hk : ∀ i j (hi : i < nodes.length) (hj : j < nodes.length), nodes[i].key = nodes[j].key → i = j) : SkI.its nodes' = putIt (SkI.its nodes) key x (clampH height) ∧ fresh = !(hasIt (SkI.its nodes) key) := by
  rcases h.how with ⟨i, hi, he, hf, rfl⟩ | ⟨hno, hf, nd, rfl, e1, e2, e3⟩
  · have hany : (SkI.its nodes).any (fun e => decide (e.1 = key)) = true := by
      rw [List.any_eq_true]
      exact ⟨(nodes[i].key, nodes[i].val, nodes[i].ht), List.mem_map.2 ⟨_, List.getElem_mem hi, rfl⟩, by simpa using he⟩
    refine ⟨?_, by rw [hf, hasIt, hany]; rfl⟩
    unfold putIt
    rw [if_pos hany]
    apply List.ext_getElem (by simp [SkI.its, setVal_length])
    intro j h1 h2
    have hj : j < nodes.length := by simpa [SkI.its, setVal_length] using h1
    simp only [SkI.its, List.getElem_map]
    rw [setVal_at nodes i x j hj]
    by_cases hij : i = j
    · subst hij; simp [he]
    · rw [if_neg hij, if_neg]
      intro e
      exact hij (hk i j hi hj (he.trans e.symm))
  · have hany : (SkI.its nodes).any (fun e => decide (e.1 = key)) = false := by
      rw [List.any_eq_false]
      intro e he
      obtain ⟨y, hy, rfl⟩ := List.mem_map.1 he
      simpa using hno y hy
    refine ⟨?_, by rw [hf, hasIt, hany]; rfl⟩
    unfold putIt
    rw [hany]
    simp [SkI.its, e1, e2, e3]

end Go.Proofs.Try.SkI
