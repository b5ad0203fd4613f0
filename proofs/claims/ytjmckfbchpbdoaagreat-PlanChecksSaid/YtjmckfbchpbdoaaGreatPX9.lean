/- Own text of this claim: an abstract machine over the given program form, and what follows from it. No condition. -/
import Derived.Test.YtjmckfbchpbdoaaGreatPX8
set_option linter.unusedVariables false
set_option linter.unusedSimpArgs false
namespace Go.Proofs.YtjmckfbchpbdoaaGreat
open Go Go.EV
noncomputable section
/-! the program's words -/
def lowV (n : Int) : Int := Int.fdiv 18446744073709551615 (2 ^ min (W (64 - n)).toNat 64)
def getV (w a n : Int) : Int := U (↑(BitVec.ofInt 64 (w.fdiv (2 ^ min a.toNat 64)) &&& BitVec.ofInt 64 (lowV n)).toNat : Int)
def ovf (v n : Int) : Bool := U (↑(BitVec.ofInt 64 v &&& ~~~BitVec.ofInt 64 (lowV n)).toNat : Int) != 0
def maskV (a n : Int) : Int := U (lowV n * 2 ^ min a.toNat 64)
def put2 (w a n v : Int) : Int := U (↑(BitVec.ofInt 64 (U (↑(BitVec.ofInt 64 w &&& ~~~BitVec.ofInt 64 (maskV a n)).toNat : Int)) ||| BitVec.ofInt 64 (U (v * 2 ^ min a.toNat 64))).toNat : Int)
theorem t113 (a n : Int) : symF Tryz.prog noU (hy [(113, [6,9,13])] [] [] []) 100 (stt Tryz.prog 113 [i a, i n]) = chainT [decide (n > 0), decide (n ≤ 64), decide (a ≥ 0)] (.leaf (.fin (.bool (decide (a ≤ W (64 - n)))))) (.leaf (.fin (.bool false))) := by kernel_rfl
theorem c113 : FnSpec Tryz.prog 113 F46 := by
  intro w t h
  unfold F46 at h
  split at h
  · rename_i a n
    simp only [Option.some.injEq] at h; subst h
    refine fnSpec_br (t := .leaf _) ?_
    refine fn_of_fin G0 (by kernel_rfl) (t113 a n) (chainT_wp (fun h => ?_) (fun h => ?_))
    · simp only [List.all_cons, List.all_nil, id, Bool.and_true, Bool.and_eq_true, decide_eq_true_eq] at h
      refine congrArg AV.bool ?_
      unfold fld
      rw [W_in (64 - n) (by omega), decide_eq_decide]
      omega
    · rw [Bool.eq_false_iff] at h
      simp only [List.all_cons, List.all_nil, id, Bool.and_true, Bool.and_eq_true, decide_eq_true_eq, ne_eq] at h
      refine congrArg AV.bool ?_
      unfold fld
      rw [eq_comm, decide_eq_false_iff_not]
      omega
  · cases h
def UA : USum := addV noU 113 F46
theorem GA : GoodU Tryz.prog UA := G0.addV c113
def F92 : List AV → Option (T AV)
  | [.int .u64 w, .int .i64 a, .int .i64 n] => some (.cki (fld a n = true) (.leaf (u (getV w a n))))
  | _ => none
theorem t92 (w a n : Int) : symF Tryz.prog UA (hy [(92, [9])] [] [] []) 200 (stt Tryz.prog 92 [u w, i a, i n]) =
  .br (fld a n) (.cki (0 ≤ a) (.cki (0 ≤ W (64 - n)) (.leaf (.fin (u (getV w a n)))))) (.leaf (.fin (u 0))) := by kernel_rfl
theorem fld_of {a n : Int} (h : fld a n = true) : 0 ≤ a ∧ 0 ≤ W (64 - n) := by
  unfold fld at h
  simp only [decide_eq_true_eq] at h
  rw [W_in (64 - n) (by omega)]
  omega
theorem c92 : FnSpec Tryz.prog 92 F92 := by
  intro l t h
  unfold F92 at h
  split at h
  · rename_i w a n
    simp only [Option.some.injEq] at h; subst h
    rintro v ⟨hf, hv⟩
    have hv : u (getV w a n) = v := hv
    subst hv
    obtain ⟨h1, h2⟩ := fld_of hf
    exact fn_of_fin GA (by kernel_rfl) (t92 w a n) ⟨fun _ => ⟨h1, h2, rfl⟩, fun h => by rw [hf] at h; cases h⟩
  · cases h
def F116 : List AV → Option (T AV)
  | [.int .u64 w, .int .i64 a, .int .i64 n, .int .u64 v] => some (.cki (fld a n = true) (.leaf (bif ovf v n then .tup [u 0, i 10] else .tup [u (put2 w a n v), i 0])))
  | _ => none
theorem t116 (w a n v : Int) : symF Tryz.prog UA (hy [(116, [13,20]), (141, [7])] [] [] []) 300 (stt Tryz.prog 116 [u w, i a, i n, u v]) =
  .br (fld a n) (.cki (0 ≤ W (64 - n)) (.br (ovf v n) (.leaf (.fin (.tup [u 0, i 10])))
    (.cki (0 ≤ a) (.br (fld a n) (.cki (0 ≤ W (64 - n)) (.cki (0 ≤ a) (.leaf (.fin (.tup [u (put2 w a n v), i 0])))))
      (.leaf (.fin (.tup [u (U (↑(BitVec.ofInt 64 (U (↑(BitVec.ofInt 64 w &&& ~~~BitVec.ofInt 64 0).toNat : Int)) ||| BitVec.ofInt 64 (U (v * 2 ^ min a.toNat 64))).toNat : Int)), i 0]))))))) (.leaf (.fin (.tup [u 0, i 2]))) := by kernel_rfl
theorem c116 : FnSpec Tryz.prog 116 F116 := by
  intro l t h
  unfold F116 at h
  split at h
  · rename_i w a n v
    simp only [Option.some.injEq] at h; subst h
    rintro r ⟨hf, hv⟩
    have hv : (bif ovf v n then AV.tup [u 0, i 10] else AV.tup [u (put2 w a n v), i 0]) = r := hv
    subst hv
    obtain ⟨h1, h2⟩ := fld_of hf
    refine fn_of_fin GA (by kernel_rfl) (t116 w a n v) ⟨fun _ => ⟨h2, fun ho => ?_, fun ho => ⟨h1, fun _ => ⟨h2, h1, ?_⟩, fun h => ?_⟩⟩, fun h => ?_⟩
    · rw [ho]; rfl
    · rw [ho]; rfl
    · rw [hf] at h; cases h
    · rw [hf] at h; cases h
  · cases h
def UB : USum := addV (addV UA 92 F92) 116 F116
theorem GB : GoodU Tryz.prog UB := (GA.addV c92).addV c116
def mk9 (U : USum) (l : List Nat) : T Lv := symF Tryz.prog U yN 40000 (stt Tryz.prog 9 [wV, knV l false])
def mk0 (U : USum) : T Lv := symF Tryz.prog U yN 40000 (stt Tryz.prog 9 [wV, .nilsl])
end
end Go.Proofs.YtjmckfbchpbdoaaGreat
