/- Walks and lemmas of this seat (HIntM): what each theorem says of the functions that it names. Conditions: those that each theorem states. -/
import Derived.Test.YtfabfkaolnidiaaRows
import Derived.Test.YtfabfkaolnidiaaLift
import Derived.Test.YtfabfkaolnidiaaHInt
namespace Go.Proofs.Ytfabfkaolnidiaa
set_option linter.unusedVariables false
set_option linter.unusedSimpArgs false
open Go.RowKit



def mkInt (q : Nat) : Int := ((q : Nat) : Int)
def markLInt (q n : Nat) : List Int := (List.range n).map fun i => mkInt (q + i)
theorem markLInt_len (q n : Nat) : (markLInt q n).length = n := by simp [markLInt]
theorem markLInt_get (q n i : Nat) (h : i < n) : (markLInt q n)[i]? = some (mkInt (q + i)) := by simp [markLInt, h]
theorem markLInt_succ (q i : Nat) : markLInt q (i + 1) = markLInt q i ++ [mkInt (q + i)] := by simp [markLInt, List.range_succ]
def mixInt (k0 : Nat) (l : List Int) (i : Nat) : List Value := (markLInt k0 i).flatMap int1 ++ (l.drop i).flatMap int1
theorem markInt_step {k0 k q : Nat} {l : List Int} {x : Int} (hx : l[k]? = some x) (hq : q = k0 + k) :
    (mixInt k0 l k).set k (.int .i64 (q : Int)) = mixInt k0 l (k + 1) := by
  have h := setAll_mid [.int .i64 (q : Int)] ((markLInt k0 k).flatMap int1) (int1 x) ((l.drop (k + 1)).flatMap int1) k (by rw [flat_len _ 1 int1_len, markLInt_len]; omega) rfl
  unfold mixInt
  rw [drop_cons hx, List.flatMap_cons]
  have h' : (List.flatMap int1 (markLInt k0 k) ++ (int1 x ++ List.flatMap int1 (List.drop (k + 1) l))).set k (.int .i64 (q : Int)) = _ := h
  rw [h', markLInt_succ, ← hq]
  simp [mkInt, int1]

set_option maxRecDepth 100000 in
theorem markIntS_any {B : Nat} (l : List Int) (v : Value) (k0 : Nat) (w : World) (hn : l.length ≤ 16777216) (hk0 : k0 ≤ 16777216) (h : w.ownsRow B 3 1 v l.length (l.flatMap int1)) :
    Calls Try.prog 52 #[v, .int .i64 k0] w fun e w' => e = .returned (.int .i64 ((k0 + l.length : Nat) : Int)) ∧ w.grownBy w' v.ownBlock ∧ w'.ownsRow B 3 1 v l.length ((markLInt k0 l.length).flatMap int1) := by
  obtain ⟨a, cap, rfl, hm⟩ := own_slice h
  unfold maxLen at hm
  go_enter Try.func52, Try.ntmps52
  go_wp2
  go_loopw [1, 5] (fun kv i wr => ∃ (k q : Nat), i = .int .i64 k ∧ k ≤ l.length ∧ kv = .int .i64 q ∧ q = k0 + k ∧ w.grownBy wr (Value.slice a l.length cap).ownBlock ∧ wr.ownsRow B 3 1 (.slice a l.length cap) l.length (mixInt k0 l k)) (fun _ i _ => l.length - (intOf i).toNat)
  case atStart => exact ⟨0, k0, rfl, by omega, rfl, by omega, grown_refl _ _, by simpa [mixInt, markLInt] using h⟩
  obtain ⟨k, q, rfl, hk, rfl, hq, hgr, hfr⟩ := hrel
  by_cases hlt : k < l.length
  · obtain ⟨x, hx0⟩ := get_of_lt hlt
    obtain ⟨g, rfl⟩ := own_some hfr (by omega)
    have hx : Hid (l[k]? = some x) := hx0
    have hqq : q ≤ k0 + k := by omega
    have hqq2 : k0 + k ≤ q := by omega
    have HQ := hid hq
    clear hx0 hq h
    obtain ⟨⟨d0, e0⟩, z0⟩ := own_cell hfr k (by omega)
    have hst := hfr.stored k (.int .i64 q)
    have hgg := grown_trans hgr (grown_set _ _ k (.int .i64 q))
    rw [markInt_step hx HQ.out] at hst
    go_wp2
    go_roundw
    case rel => exact ⟨k + 1, q + 1, by go_num, by omega, by go_num, by omega, hgg, hst.1⟩
    case measure => simp [intOf]; omega
  · go_wp2
    go_ret
    have hkl : k = l.length := by omega
    subst hkl
    exact ⟨ret_int (by rw [hq]), hgr, by simpa [mixInt] using hfr⟩

end Go.Proofs.Ytfabfkaolnidiaa
