/- The walks of Text, Some, Number (name), of comparing two names, and of the document's answers (handcartref06). -/
import Derived.Test.YtbhbcmngbdpfoaaBy
import Derived.ChangeKeysEq
namespace Go.Proofs.Ytbhbcmngbdpfoaa
open Go.RowKit
set_option linter.unusedVariables false
set_option linter.unusedSimpArgs false

theorem eqByte (x y : Int) (w : World) : (Op.equalIn 9999 5 (.int .u8 x) (.int .u8 y)).run Try.prog w = .ok (x == y) w := by kernel_rfl
section
variable (n0 n1 n2 n3 n4 n5 n6 n7 : UInt8) (m0 m1 m2 m3 m4 m5 m6 m7 : UInt8)
theorem partByte (x0 x1 x2 x3 x4 x5 x6 x7 : Int) (w : World) : ∀ i, i < 8 → (part 5 #[.int .u8 x0, .int .u8 x1, .int .u8 x2, .int .u8 x3, .int .u8 x4, .int .u8 x5, .int .u8 x6, .int .u8 x7] (i * Try.prog.cellsOf 5)).run Try.prog w = .ok (.int .u8 (([x0, x1, x2, x3, x4, x5, x6, x7] : List Int).getD i 0)) w := by
  intro i hi
  obtain rfl | rfl | rfl | rfl | rfl | rfl | rfl | rfl : i = 0 ∨ i = 1 ∨ i = 2 ∨ i = 3 ∨ i = 4 ∨ i = 5 ∨ i = 6 ∨ i = 7 := by omega
  all_goals kernel_rfl
theorem eqItems (xs ys : Array Value) (X Y : Nat → Int) (hx : ∀ w i, i < 8 → (part 5 xs (i * Try.prog.cellsOf 5)).run Try.prog w = .ok (.int .u8 (X i)) w) (hy : ∀ w i, i < 8 → (part 5 ys (i * Try.prog.cellsOf 5)).run Try.prog w = .ok (.int .u8 (Y i)) w) (w : World) :
    ∀ is : List Nat, (∀ i ∈ is, i < 8) → (Op.eqItems 9999 5 (Try.prog.cellsOf 5) xs ys is).run Try.prog w = .ok (is.all fun i => X i == Y i) w
  | [], _ => by simp [Op.eqItems]
  | i :: is, h => by
    have ih := eqItems xs ys X Y hx hy w is (fun j hj => h j (by simp [hj]))
    simp only [Op.eqItems, Sem.run_bind, hx w i (h i (by simp)), hy w i (h i (by simp)), Result.andThen_ok, eqByte, List.all_cons]
    rcases X i == Y i with _ | _
    · simp
    · simp [ih]
theorem eqName_any (w : World) : (Op.equal 23 (.agg #[.int .u8 (n0.toNat : Int), .int .u8 (n1.toNat : Int), .int .u8 (n2.toNat : Int), .int .u8 (n3.toNat : Int), .int .u8 (n4.toNat : Int), .int .u8 (n5.toNat : Int), .int .u8 (n6.toNat : Int), .int .u8 (n7.toNat : Int)]) (.agg #[.int .u8 (m0.toNat : Int), .int .u8 (m1.toNat : Int), .int .u8 (m2.toNat : Int), .int .u8 (m3.toNat : Int), .int .u8 (m4.toNat : Int), .int .u8 (m5.toNat : Int), .int .u8 (m6.toNat : Int), .int .u8 (m7.toNat : Int)])).run Try.prog w = .ok (decide (([n0, n1, n2, n3, n4, n5, n6, n7] : List UInt8) = [m0, m1, m2, m3, m4, m5, m6, m7])) w := by
  obtain ⟨i, hi⟩ : ∃ i, Try.prog.info? 5 = some i := Option.isSome_iff_exists.1 (by kernel_rfl)
  have h := run_equalIn_array (P := Try.prog) w 9999 (t := 23) (e := 5) (n := 8) #[.int .u8 (n0.toNat : Int), .int .u8 (n1.toNat : Int), .int .u8 (n2.toNat : Int), .int .u8 (n3.toNat : Int), .int .u8 (n4.toNat : Int), .int .u8 (n5.toNat : Int), .int .u8 (n6.toNat : Int), .int .u8 (n7.toNat : Int)] #[.int .u8 (m0.toNat : Int), .int .u8 (m1.toNat : Int), .int .u8 (m2.toNat : Int), .int .u8 (m3.toNat : Int), .int .u8 (m4.toNat : Int), .int .u8 (m5.toNat : Int), .int .u8 (m6.toNat : Int), .int .u8 (m7.toNat : Int)] (by kernel_rfl) hi
  rw [eqItems _ _ (fun i => ([(n0.toNat : Int), n1.toNat, n2.toNat, n3.toNat, n4.toNat, n5.toNat, n6.toNat, n7.toNat] : List Int).getD i 0) (fun i => ([(m0.toNat : Int), m1.toNat, m2.toNat, m3.toNat, m4.toNat, m5.toNat, m6.toNat, m7.toNat] : List Int).getD i 0) (fun w i hi => partByte _ _ _ _ _ _ _ _ w i hi) (fun w i hi => partByte _ _ _ _ _ _ _ _ w i hi) w _ (fun i hi => List.mem_range.1 hi)] at h
  refine Eq.trans h ?_
  congr 1
  rw [Bool.eq_iff_iff]
  simp only [List.all_eq_true, List.mem_range, beq_iff_eq, decide_eq_true_eq]
  constructor
  · intro h
    have e : ∀ a b : UInt8, (a.toNat : Int) = b.toNat → a = b := fun a b h => UInt8.toNat_inj.1 (by omega)
    rw [e _ _ (h 0 (by omega)), e _ _ (h 1 (by omega)), e _ _ (h 2 (by omega)), e _ _ (h 3 (by omega)), e _ _ (h 4 (by omega)), e _ _ (h 5 (by omega)), e _ _ (h 6 (by omega)), e _ _ (h 7 (by omega))]
  · intro h
    simp only [List.cons.injEq, and_true] at h
    obtain ⟨rfl, rfl, rfl, rfl, rfl, rfl, rfl, rfl⟩ := h
    intro i hi; rfl
theorem eql_name (w : World) : (binOp .eql 23 (.agg #[.int .u8 (n0.toNat : Int), .int .u8 (n1.toNat : Int), .int .u8 (n2.toNat : Int), .int .u8 (n3.toNat : Int), .int .u8 (n4.toNat : Int), .int .u8 (n5.toNat : Int), .int .u8 (n6.toNat : Int), .int .u8 (n7.toNat : Int)]) (.agg #[.int .u8 (m0.toNat : Int), .int .u8 (m1.toNat : Int), .int .u8 (m2.toNat : Int), .int .u8 (m3.toNat : Int), .int .u8 (m4.toNat : Int), .int .u8 (m5.toNat : Int), .int .u8 (m6.toNat : Int), .int .u8 (m7.toNat : Int)])).run Try.prog w = .ok (.bool (decide (([n0, n1, n2, n3, n4, n5, n6, n7] : List UInt8) = [m0, m1, m2, m3, m4, m5, m6, m7]))) w := by
  simp [binOp, eqName_any]
theorem neq_name (w : World) : (binOp .neq 23 (.agg #[.int .u8 (n0.toNat : Int), .int .u8 (n1.toNat : Int), .int .u8 (n2.toNat : Int), .int .u8 (n3.toNat : Int), .int .u8 (n4.toNat : Int), .int .u8 (n5.toNat : Int), .int .u8 (n6.toNat : Int), .int .u8 (n7.toNat : Int)]) (.agg #[.int .u8 (m0.toNat : Int), .int .u8 (m1.toNat : Int), .int .u8 (m2.toNat : Int), .int .u8 (m3.toNat : Int), .int .u8 (m4.toNat : Int), .int .u8 (m5.toNat : Int), .int .u8 (m6.toNat : Int), .int .u8 (m7.toNat : Int)])).run Try.prog w = .ok (.bool (!decide (([n0, n1, n2, n3, n4, n5, n6, n7] : List UInt8) = [m0, m1, m2, m3, m4, m5, m6, m7]))) w := by
  simp [binOp, eqName_any]
end
end Go.Proofs.Ytbhbcmngbdpfoaa
