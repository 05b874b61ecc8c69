/- A part of the proof. -/
import Derived.Test.YtobpahgkkpmpfaaGreatXgB
import Derived.Test.YtobpahgkkpmpfaaGreatNxL
import Derived.Test.YtobpahgkkpmpfaaGreatRows
set_option maxRecDepth 100000
set_option maxHeartbeats 0
namespace Go.Proofs
open Go Go.NL

theorem alive12 (M : Mem) (n : Nat) : Callable Tryz.prog 20 [] M n (.b true) M n := by
  have h := run12_ok
  unfold run12 at h
  split at h
  · rename_i m' n' heq
    exact (callable_of_ev nfT_ok mixed prim_ok heq).plain rfl M n
  · cases h

/-- With the law's own 'alive', too. -/
noncomputable def prim12 : Prim := fun f args m n =>
  match Nat.beq f 20 with
  | true => match args with
    | [] => some (some (.b true, m, n))
    | _ => some none
  | false => prim f args m n

theorem prim12_ok : PrimOk Tryz.prog prim12 := by
  intro f args m n v m' n' h
  unfold prim12 at h
  split at h
  · rename_i hf
    have := Nat.eq_of_beq_eq_true hf
    subst this
    split at h
    · cases h; exact ⟨⟨_, pf20⟩, alive12 m.get n⟩
    · cases h
  · exact prim_ok f args m n v m' n' h

noncomputable def run7 (a b : Int) : Bool := match callE nfT.get prim12 (ev nfT.get prim12 1000) 7 [.i .i64 a, .i .i64 b] .e 0 with
  | some (.b true, _, _) => true
  | _ => false

theorem run7_00 : run7 (.ofNat 0) (.ofNat 0) = true := by kernel_rfl
theorem run7_0s (j : Nat) : run7 (.ofNat 0) (.ofNat (j + 1)) = true := by kernel_rfl
theorem run7_0m : run7 (.ofNat 0) (.negSucc 0) = true := by kernel_rfl
theorem run7_0n (j : Nat) : run7 (.ofNat 0) (.negSucc (j + 1)) = true := by kernel_rfl
theorem run7_s0 (k : Nat) : run7 (.ofNat (k + 1)) (.ofNat 0) = true := by kernel_rfl
theorem run7_ss (k : Nat) (j : Nat) : run7 (.ofNat (k + 1)) (.ofNat (j + 1)) = true := by kernel_rfl
theorem run7_sm (k : Nat) : run7 (.ofNat (k + 1)) (.negSucc 0) = true := by kernel_rfl
theorem run7_sn (k : Nat) (j : Nat) : run7 (.ofNat (k + 1)) (.negSucc (j + 1)) = true := by kernel_rfl
theorem run7_m (b : Int) : run7 (.negSucc 0) b = true := by kernel_rfl
theorem run7_n (k : Nat) (b : Int) : run7 (.negSucc (k + 1)) b = true := by kernel_rfl

theorem run7_ok : ∀ a b, run7 a b = true
  | .ofNat 0, .ofNat 0 => run7_00
  | .ofNat 0, .ofNat (j + 1) => run7_0s j
  | .ofNat 0, .negSucc 0 => run7_0m
  | .ofNat 0, .negSucc (j + 1) => run7_0n j
  | .ofNat (k + 1), .ofNat 0 => run7_s0 k
  | .ofNat (k + 1), .ofNat (j + 1) => run7_ss k j
  | .ofNat (k + 1), .negSucc 0 => run7_sm k
  | .ofNat (k + 1), .negSucc (j + 1) => run7_sn k j
  | .negSucc 0, b => run7_m b
  | .negSucc (k + 1), b => run7_n k b

theorem law7 (a b : Int) : ∃ M' n', Callable Tryz.prog 7 [.i .i64 a, .i .i64 b] (fun _ => none) 0 (.b true) M' n' := by
  have h := run7_ok a b
  unfold run7 at h
  split at h
  · rename_i m' n' heq
    exact ⟨_, _, callable_of_ev nfT_ok mixed prim12_ok heq⟩
  · cases h
end Go.Proofs
