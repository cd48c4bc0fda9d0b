/- The parts of the program that the abstract machine asks for: its regions' orders, its functions without a body. -/
import Derived.Test.YtmipibapdgcgnaaProg
import Derived.Test.YtmipibapdgcgnaaAbLib
import Derived.KernelRfl
namespace Go.Proofs.Ytmipibapdgcgnaa
open Go Go.Ab

def tab : List (Nat × List (Nat × Reg)) := [
  (3, [(5, ⟨[0, 1, 2, 4, 5, 6, 8, 9, 10, 11, 13, 14, 15, 3, 7, 12, 16, 17, 18], [0, 0, 2, 7, 0, 0, 32, 127, 0, 0, 0, 1024, 3839, 0, 0, 16384, 65279, 131071, 262143]⟩), (6, ⟨[0, 1, 2, 4, 5, 6, 8, 9, 10, 11, 13, 15, 16, 3, 7, 12, 14, 17, 18, 19, 20], [0, 0, 2, 7, 0, 0, 32, 127, 0, 0, 0, 1024, 3839, 0, 16127, 0, 32768, 98304, 261887, 524287, 1048575]⟩), (10, ⟨[0, 1, 2, 3, 4, 5, 6, 7, 8, 9], [0, 0, 3, 7, 0, 0, 48, 112, 255, 511]⟩)]),
  (4, [(1, ⟨[0, 1, 2, 3, 4, 5, 6, 7], [0, 1, 0, 4, 0, 0, 51, 127]⟩), (5, ⟨[0, 1, 2, 3, 4, 6, 7, 9, 10, 11, 12, 5, 8, 13, 14, 15, 16, 17, 18, 19, 21, 22, 24, 25, 26, 27, 20, 23, 28, 29, 30, 31, 32, 33, 34, 35, 36, 38, 39, 37, 40, 41, 42, 43, 44, 45, 46, 47, 49, 50, 52, 53, 54, 55, 48, 51, 56, 57, 58, 59], [0, 1, 3, 3, 11, 27, 3, 67, 251, 3, 515, 3, 2051, 8187, 16383, 32767, 65535, 131071, 131071, 393215, 917503, 131071, 2228223, 8257535, 131071, 16908287, 131071, 67239935, 268304383, 536870911, 1073741823, 2147483647, 4294967295, 4294967295, 4294967295, 4294967295, 38654705663, 107374182399, 4294967295, 279172874239, 1069446856703, 2168958484479, 4398046511103, 8796093022207, 17592186044415, 35184372088831, 35184372088831, 105553116266495, 246290604621823, 35184372088831, 598134325510143, 2216615441596415, 35184372088831, 4538783999459327, 35184372088831, 18049582881570815, 72022409665839103, 144115188075855871, 288230376151711743, 576460752303423487]⟩)]),
  (6, [(43, ⟨[0, 1, 2, 3, 4, 5, 6, 7, 8, 10, 11, 12, 13, 14, 9, 15, 16, 17, 18, 21, 22, 23, 24, 25, 26, 19, 20, 27, 28], [0, 1, 3, 7, 7, 31, 63, 127, 255, 511, 255, 1279, 3327, 7423, 15615, 32767, 65535, 131071, 262143, 524287, 1048575, 262143, 2359295, 6553599, 14942207, 31719423, 65273855, 134217727, 268435455]⟩)]),
  (20, [(3, ⟨[0, 1, 2, 4, 6, 9, 11, 14, 3, 5, 7, 8, 10, 12, 13, 15, 16, 17], [0, 1, 3, 7, 7, 31, 7, 127, 7, 7, 1023, 7, 4095, 8191, 7, 32767, 65535, 131071]⟩)]),
  (27, [(1, ⟨[0, 1, 2, 3, 4, 5], [0, 1, 0, 4, 15, 31]⟩)]),
  (30, [(6, ⟨[0, 1, 2], [0, 0, 3]⟩), (11, ⟨[0, 1, 2], [0, 0, 3]⟩)]),
  (31, [(6, ⟨[0, 1, 2], [0, 0, 3]⟩), (17, ⟨[0, 1, 2], [0, 0, 3]⟩)]),
  (32, [(8, ⟨[0, 1, 2], [0, 0, 3]⟩)]),
  (65, [(5, ⟨[0, 1, 2, 3, 4, 5, 6, 7, 8, 9, 10, 11, 12, 13, 14, 15, 16, 17], [0, 1, 3, 7, 15, 31, 63, 127, 255, 511, 511, 2047, 511, 511, 12799, 32767, 65535, 131071]⟩)]),
  (74, [(20, ⟨[0, 1, 2, 3, 4, 5, 6, 7, 8, 9], [0, 0, 0, 6, 0, 0, 48, 126, 255, 511]⟩)])]

/-- What the machine is told of the program. -/
noncomputable def env : Env where
  P := Try.prog
  ext := fun k args => match k, args with
    | 46, [.float .f64 b] => some (.int .u64 b)
    | 53, [.int .u64 n] => some (.float .f64 n.toNat)
    | _, _ => none
  extA := fun k args => match k, args with
    | 77, [.int .i64 n] => if 0 ≤ n ∧ n < 1099511627776 then some (.cells true (List.replicate n.toNat junk), fun id => .slice (some ⟨id, 0, none⟩) n.toNat (unk 1)) else none
    | _, _ => none
  reg := fun f id => (tab.lookup f).bind (·.lookup id)

theorem run46 (b : Nat) (w : World) : (callFunc 46 #[.float .f64 b]).run Try.prog w = .ok (.value (.int .u64 b)) w := by kernel_rfl
theorem run53 (b : Int) (w : World) : (callFunc 53 #[.int .u64 b]).run Try.prog w = .ok (.value (.float .f64 b.toNat)) w := by kernel_rfl

theorem run77 (Args : Array Value) (w : World) : (callFunc 77 Args).run Try.prog w = ((Extern.BytealgMakeNoZero.makeNoZero Try.f77.params Try.f77.resultTypes Args).run Try.prog w).andThen fun v w => .ok (.value v) w := by
  have : (callFunc 77 Args).run Try.prog w = (Extern.BytealgMakeNoZero.makeNoZero Try.f77.params Try.f77.resultTypes Args >>= fun v => pure (.value v)).run Try.prog w := by kernel_rfl
  rw [this, Sem.run_bind]
  rfl
theorem res77 : Try.f77.resultTypes = #[22] := by kernel_rfl
theorem textOk : envTextB env 2 = true := by kernel_rfl
theorem mixedOk : Try.prog.follows .mixedOrders = true := by kernel_rfl

theorem env_ok : EnvOk env 2 where
  ext := fun k args v h ρ n Args w hr => by
    simp only [env] at h
    split at h
    · cases h
      have := VRs.flat_eq (by rfl) hr
      subst this
      exact ⟨_, run46 _ w, .scalar rfl⟩
    · cases h
      have := VRs.flat_eq (by rfl) hr
      subst this
      exact ⟨_, run53 _ w, .scalar rfl⟩
    · cases h
  extA := fun k args b f h B ρ n Args w hB hr => by
    simp only [env] at h
    split at h
    · split at h
      · rename_i hh
        cases h
        exact noZero_makes (t := 22) (e := 5) (by kernel_rfl) (fun Args w => by rw [show (#[22] : Array TypeId) = Try.f77.resultTypes from res77.symm]; exact run77 Args w) hh.1 hh.2 hB hr
      · cases h
    · cases h
  mixed := mixedOk
  text := envTextB_spec textOk

end Go.Proofs.Ytmipibapdgcgnaa
