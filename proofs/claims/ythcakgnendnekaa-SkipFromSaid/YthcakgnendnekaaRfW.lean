/- SkipPlays: whole. -/
import Derived.Test.YthcakgnendnekaaRfA
import Derived.Test.YthcakgnendnekaaSkFr
open Go.RowKit Go.Cph Go.Cph.Skip
set_option linter.unusedVariables false
set_option linter.unusedSimpArgs false
namespace Go.Proofs.Try.SkS
attribute [local go_sem] Oper.semAt_some

theorem cTowersNil (w : World) :
    Calls Try.prog 22 #[.pointer none] w fun e w' => e = .returned (.slice none 0 0) ∧ w = w' := by
  go_enter Try.func22, Try.ntmps22
  go_wp2_with fail
  go_ret
  exact ⟨rfl, rfl⟩

/-- Where a nil list's iterator lies. -/
def NilAt (key : ByteArray) (bl bk : Nat) (pre : List KV) (W : World) : Prop := W.cell? ⟨bl, 0, none⟩ = some (.pointer none) ∧ W.cell? ⟨bk, 0, none⟩ = some (.string key)
set_option maxHeartbeats 4000000 in
theorem from_tells_nil (key : ByteArray) (bl bk : Nat) :
    SeqTells Try.prog 39 #[.pointer (some ⟨bl, 0, none⟩), .pointer (some ⟨bk, 0, none⟩)] encKV (NilAt key bl bk) (NextKV (fun _ => []) key) (DoneKV (fun _ => []) key) := by
  intro l J Jx W hJL hJ hJx hY h0
  obtain ⟨c1, c2⟩ := hJL _ _ h0
  have hseek := seekNil key W
  have H0 := Lib.hid h0
  clear hJL hJ hJx hY h0
  refine (callsIn_wide (n := 6)).1 (callsIn_of_wp Try.func39 rfl trivial ?_ rfl)
  simp only [Try.ntmps39, List.size_toArray, List.length_cons, List.length_nil, Nat.reduceAdd, Nat.reduceSub, Array.replicate_succ, Array.replicate_zero, List.push_toArray, List.append_toArray, List.nil_append, List.cons_append]
  gi_wp2_with (refine ⟨trivial, ?_⟩; gi_at_call 34; refine (callsIn_wide.2 hseek).mono ?_; rintro e w1 ⟨rfl, rfl⟩)
  gi_loopg [4] 0 (fun k n wr => n = .int .i64 0 ∧ J [] wr)
  case atStart => exact ⟨rfl, H0.out⟩
  case round =>
    obtain ⟨rfl, hj⟩ := hrel
    have HJP := Lib.hid hj
    clear hj
    gi_wp2
    go_end0
    exact ⟨⟨_, rfl⟩, .inl ⟨[], by intro y hy; simp at hy, HJP.out⟩⟩
/-- A list's iterator. -/
def AtList (x : Value) (l : List It) (key : ByteArray) (bl bk : Nat) (pre : List KV) (W : World) : Prop :=
  W.cell? ⟨bl, 0, none⟩ = some x ∧ W.cell? ⟨bk, 0, none⟩ = some (.string key) ∧ IsList W x l
theorem from_tells_any {w : World} {x : Value} {l : List It} (h : IsList w x l) (key : ByteArray) (bl bk : Nat) :
    ∃ L : List KV → World → Prop, (∀ pre W, AtList x l key bl bk pre W → L pre W) ∧
    SeqTells Try.prog 39 #[.pointer (some ⟨bl, 0, none⟩), .pointer (some ⟨bk, 0, none⟩)] encKV L (NextKV (fun _ => kvIt l) key) (DoneKV (fun _ => kvIt l) key) := by
  rcases h with ⟨rfl, rfl⟩ | ⟨p, _, _, _, rfl, _, _, _, _⟩
  · exact ⟨_, fun pre W h => ⟨h.1, h.2.1⟩, from_tells_nil key bl bk⟩
  · refine ⟨ListAt (fun _ => kvIt l) key bl bk p, fun pre W h => ⟨h.1, h.2.1, ?_⟩, from_tells (fun _ => kvIt l) key bl bk p ((kvIt l).map (·.1)) (fun _ y hy => List.mem_map.2 ⟨y, hy, rfl⟩) (fun _ _ _ => List.prefix_rfl)⟩
    rcases h.2.2 with ⟨e, _⟩ | ⟨p', nx, nodes, v, e, h1, h2, h3, _⟩
    · cases e
    · cases e
      exact ⟨nx, nodes, v, h1, h2, by rw [← kvIt_its, h3]⟩
end Go.Proofs.Try.SkS
