/- Own text of this claim: an abstract machine over the given program form, and what follows from it. No condition. -/
import Derived.Test.YtjmckfbchpbdoaaGreatPX4
set_option linter.unusedVariables false
set_option linter.unusedSimpArgs false
namespace Go.Proofs.YtjmckfbchpbdoaaGreat
open Go Go.EV
noncomputable section
/-! the document's words -/
abbrev u (n : Int) : AV := .int .u64 n
abbrev U (n : Int) : Int := IntKind.u64.wrap n
def bitV (w k : Int) : Int := U (↑(BitVec.ofInt 64 (w.fdiv (2 ^ min k.toNat 64)) &&& BitVec.ofInt 64 1).toNat : Int)
def F47 : List AV → Option (T AV)
  | [.int .u64 w, .int .i64 k] => some (.cki (0 ≤ k) (.leaf (u (bitV w k))))
  | _ => none
theorem t47 (w k : Int) : symF Tryz.prog noU (hy [] [] [] []) 100 (stt Tryz.prog 47 [u w, i k]) = .cki (0 ≤ k) (.leaf (.fin (u (bitV w k)))) := by kernel_rfl
theorem c47 : FnSpec Tryz.prog 47 F47 := by
  intro a t h
  unfold F47 at h
  split at h
  · rename_i w k
    simp only [Option.some.injEq] at h; subst h
    rintro v ⟨hk, hv⟩
    have hv : u (bitV w k) = v := hv
    subst hv
    exact fn_of_fin G0 (by kernel_rfl) (t47 w k) ⟨hk, rfl⟩
  · cases h
def fld (a n : Int) : Bool := decide (1 ≤ n ∧ n ≤ 64 ∧ 0 ≤ a ∧ a ≤ 64 - n)
def F46 : List AV → Option (T AV)
  | [.int .i64 a, .int .i64 n] => some (.leaf (.bool (fld a n)))
  | _ => none
theorem t46 (a n : Int) : symF Tryz.prog noU (hy [(46, [6,9,13])] [] [] []) 100 (stt Tryz.prog 46 [i a, i n]) = chainT [decide (n ≥ 1), decide (n ≤ 64), decide (a ≥ 0)] (.leaf (.fin (.bool (decide (a ≤ W (64 - n)))))) (.leaf (.fin (.bool false))) := by kernel_rfl
theorem c46 : FnSpec Tryz.prog 46 F46 := by
  intro w t h
  unfold F46 at h
  split at h
  · rename_i a n
    simp only [Option.some.injEq] at h; subst h
    refine fnSpec_br (t := .leaf _) ?_
    refine fn_of_fin G0 (by kernel_rfl) (t46 a n) (chainT_wp (fun h => ?_) (fun h => ?_))
    · simp only [List.all_cons, List.all_nil, id, Bool.and_true, Bool.and_eq_true, decide_eq_true_eq] at h
      refine congrArg AV.bool ?_
      unfold fld
      rw [W_in (64 - n) (by omega), decide_eq_decide]
      omega
    · rw [Bool.eq_false_iff] at h
      simp only [List.all_cons, List.all_nil, id, Bool.and_true, Bool.and_eq_true, decide_eq_true_eq, ne_eq] at h
      refine congrArg AV.bool ?_
      unfold fld
      rw [eq_comm, decide_eq_false_iff_not]
      omega
  · cases h
def U4 : USum := addV (addV noU 47 F47) 46 F46
theorem G4 : GoodU Tryz.prog U4 := (G0.addV c47).addV c46

def y35 (k k2 : Nat) : Hy := hy [(35, [16,20,26,28,36,42])] [(35, [(2, [0,1,2,3,10,11,12])])] [(35, [(22, i ((k + 1 : Nat) : Int)), (30, i ((k2 + 1 : Nat) : Int))])] []
def h35 : T Lv := symF Tryz.prog U4 (y35 0 0) 300 (stt Tryz.prog 35 [u 0, i 0, i 1, u 0])
def A35 (w v : Int) (a n k : Nat) : AM := hd 35 55 [(0, u w), (1, i a), (2, i n), (3, u v), (10, i k)] (todoL h35 0) []
def B35 (w v : Int) (a n : Nat) (z x : Int) (k : Nat) : AM := hd 35 55 [(0, u w), (1, i a), (2, i n), (3, u v), (10, i z), (11, u x), (12, i k)] (todoL h35 1) []
def addB (x b : Int) (k : Nat) : Int := U (x + U (b * 2 ^ min k 64))
def TB35 (w v : Int) (a n : Nat) (z x : Int) (k : Nat) : T Lv :=
  (.br (decide ((k : Int) < 64))
    (.cki (0 ≤ (k : Int))
    (.br (decide ((k : Int) ≥ (a : Int)))
      (.br (decide ((k : Int) < W ((a : Int) + (n : Int))))
        (.cki (0 ≤ W ((k : Int) - (a : Int)))
        (.cki (0 ≤ (k : Int))
        (.cki (i (W ((k : Int) + 1)) = i ((k + 1 : Nat) : Int))
        (.ck True
        (.leaf (.to (B35 w v a n z (addB x (bitV v (W ((k : Int) - (a : Int)))) k) (k + 1))))))))
        (.cki (0 ≤ (k : Int))
        (.cki (i (W ((k : Int) + 1)) = i ((k + 1 : Nat) : Int))
        (.ck True
        (.leaf (.to (B35 w v a n z (addB x (bitV w k) k) (k + 1))))))))
      (.cki (0 ≤ (k : Int))
      (.cki (i (W ((k : Int) + 1)) = i ((k + 1 : Nat) : Int))
      (.ck True
      (.leaf (.to (B35 w v a n z (addB x (bitV w k) k) (k + 1)))))))))
    (.leaf (.fin (.tup [u x, i 0]))))
def TA35 (w v : Int) (a n k : Nat) : T Lv :=
  (.br (decide ((k : Int) < 64))
    (.cki (0 ≤ (k : Int))
    (.br (bitV v k == 1)
      (.leaf (.fin (.tup [u 0, i 10])))
      (.cki (i (W ((k : Int) + 1)) = i ((k + 1 : Nat) : Int))
      (.ck (True)
      (.leaf (.to (A35 w v a n (k + 1))))))))
    (TB35 w v a n k 0 0))
section
variable (w v : Int) (a n k : Nat) (z x : Int)
theorem e35 : symF Tryz.prog U4 (y35 n 0) 300 (stt Tryz.prog 35 [u w, i a, i n, u v]) = .br (fld a n) (TA35 w v a n n) (.leaf (.fin (.tup [u 0, i 2]))) := by kernel_rfl
theorem a35 : symF Tryz.prog U4 (y35 k 0) 300 (A35 w v a n k) = TA35 w v a n k := by kernel_rfl
theorem b35 : symF Tryz.prog U4 (y35 0 k) 300 (B35 w v a n z x k) = TB35 w v a n z x k := by kernel_rfl
end
/-- what is put together, bit by bit -/
def pxs (w v : Int) (a n : Nat) : Nat → Int
  | 0 => 0
  | k + 1 => addB (pxs w v a n k) (bif Nat.ble a k && Nat.blt k (a + n) then bitV v ((k - a : Nat) : Int) else bitV w k) k
def hiB (v : Int) : Nat → Nat → Bool
  | _, 0 => false
  | k, d + 1 => bitV v k == 1 || hiB v (k + 1) d
section
variable {w v : Int} {a n : Nat}
theorem wpb35 (ha : a + n ≤ 64) (z : Int) : ∀ (d k : Nat), k + d = 64 → (TB35 w v a n z (pxs w v a n k) k).Wp (EndLv Tryz.prog (· = .tup [u (pxs w v a n 64), i 0]))
  | 0, k, hd => by
    obtain rfl : k = 64 := by omega
    exact ⟨fun h => by simp at h, fun h => rfl⟩
  | d + 1, k, hd => by
    have hk : k < 64 := by omega
    have go : ∀ x, x = pxs w v a n (k + 1) → EndsF Tryz.prog (B35 w v a n z x (k + 1)) (· = .tup [u (pxs w v a n 64), i 0]) := by
      rintro x rfl
      exact endsF_of G4 (b35 w v a n (k + 1) z _) (wpb35 ha z d (k + 1) (by omega))
    have hs : i (W ((k : Int) + 1)) = i ((k + 1 : Nat) : Int) := i_eq (W_succ hk (by omega))
    have hW : W ((a : Int) + (n : Int)) = ((a + n : Nat) : Int) := by rw [W_in _ (by omega)]; rfl
    refine ⟨fun _ => ⟨by omega, fun h1 => ⟨fun h2 => ⟨?_, by omega, hs, trivial, go _ ?_⟩, fun h2 => ⟨by omega, hs, trivial, go _ ?_⟩⟩, fun h1 => ⟨by omega, hs, trivial, go _ ?_⟩⟩, fun h => ?_⟩
    · simp only [decide_eq_true_eq] at h1
      rw [W_in _ (by omega)]; omega
    · simp only [decide_eq_true_eq] at h1 h2
      rw [hW] at h2
      have : W ((k : Int) - (a : Int)) = ((k - a : Nat) : Int) := by rw [W_in _ (by omega)]; omega
      rw [this]
      show _ = addB _ _ k
      rw [show Nat.ble a k = true by simp; omega, bltT (by omega)]; rfl
    · simp only [decide_eq_true_eq, decide_eq_false_iff_not] at h1 h2
      rw [hW] at h2
      show _ = addB _ _ k
      rw [bltF (show a + n ≤ k by omega), Bool.and_false]; rfl
    · simp only [decide_eq_false_iff_not] at h1
      show _ = addB _ _ k
      rw [show Nat.ble a k = false by
        cases hb : Nat.ble a k with
        | false => rfl
        | true => rw [Nat.ble_eq] at hb; omega]; rfl
    · simp only [decide_eq_false_iff_not] at h; omega
def putV (w v : Int) (a n : Nat) (k d : Nat) : AV := bif hiB v k d then .tup [u 0, i 10] else .tup [u (pxs w v a n 64), i 0]
theorem wpa35 (ha : a + n ≤ 64) : ∀ (d k : Nat), k + d = 64 → (TA35 w v a n k).Wp (EndLv Tryz.prog (· = putV w v a n k d))
  | 0, k, hd => by
    obtain rfl : k = 64 := by omega
    exact ⟨fun h => by simp at h, fun h => wpb35 ha 64 64 0 (by omega)⟩
  | d + 1, k, hd => by
    have hk : k < 64 := by omega
    refine ⟨fun _ => ⟨by omega, fun h1 => ?_, fun h1 => ⟨i_eq (W_succ hk (by omega)), trivial, ?_⟩⟩, fun h => ?_⟩
    · show _ = putV w v a n k (d + 1)
      unfold putV hiB
      rw [h1]; rfl
    · have := wpa35 ha d (k + 1) (by omega)
      have e : putV w v a n k (d + 1) = putV w v a n (k + 1) d := by
        unfold putV
        rw [hiB, h1]; rfl
      rw [e]
      exact endsF_of G4 (a35 w v a n (k + 1)) this
    · simp only [decide_eq_false_iff_not] at h; omega
end
def F35 : List AV → Option (T AV)
  | [.int .u64 w, .int .i64 a, .int .i64 n, .int .u64 v] => some (.cki (fld a n = true) (.leaf (putV w v a.toNat n.toNat n.toNat (64 - n.toNat))))
  | _ => none
theorem c35 : FnSpec Tryz.prog 35 F35 := by
  intro l t h
  unfold F35 at h
  split at h
  · rename_i w a n v
    simp only [Option.some.injEq] at h; subst h
    rintro r ⟨hf, hv⟩
    have hv : putV w v a.toNat n.toNat n.toNat (64 - n.toNat) = r := hv
    subst hv
    have hb := hf
    unfold fld at hb
    simp only [decide_eq_true_eq] at hb
    obtain ⟨a, rfl⟩ := Int.eq_ofNat_of_zero_le hb.2.2.1
    obtain ⟨n, rfl⟩ := Int.eq_ofNat_of_zero_le (show 0 ≤ n by omega)
    simp only [Int.toNat_natCast]
    refine fn_of_fin G4 (by kernel_rfl) (e35 w v a n) ⟨fun _ => wpa35 (by omega) (64 - n) n (by omega), fun h => ?_⟩
    rw [hf] at h; cases h
  · cases h
end
end Go.Proofs.YtjmckfbchpbdoaaGreat
