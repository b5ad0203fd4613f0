/- Own text of this claim: an abstract machine over the given program form, and what follows from it. No condition. -/
import Derived.Test.YtkbfhpahjloidaaG7
set_option linter.unusedVariables false
set_option linter.unusedSimpArgs false
namespace Go.Proofs.Ytkbfhpahjloidaa
open Go Go.EV
noncomputable section
/-! do extents not meet -/
section
variable (p q : Nat → Int)
def noM (j : Nat) : Nat → Bool
  | 0 => true
  | k + 1 => noM j k && !meet (p j) (q j) (p k) (q k)
def okJ (j : Nat) : Bool := isX (p j) (q j) && noM p q j j
def ap : Nat → Bool
  | 0 => true
  | j + 1 => ap j && okJ p q j
end
theorem noM_false {p q : Nat → Int} {j k : Nat} (h : meet (p j) (q j) (p k) (q k) = true) : ∀ {m : Nat}, k < m → noM p q j m = false
  | 0, h2 => by omega
  | m + 1, h2 => by
    unfold noM
    by_cases e : k = m
    · subst e; rw [h]; simp
    · rw [noM_false h (m := m) (by omega)]; rfl
theorem ap_false {p q : Nat → Int} {j : Nat} (h : okJ p q j = false) : ∀ {n : Nat}, j < n → ap p q n = false
  | 0, h2 => by omega
  | n + 1, h2 => by
    unfold ap
    by_cases e : j = n
    · subst e; rw [h]; simp
    · rw [ap_false h (n := n) (by omega)]; rfl

def y26 (j k : Nat) : Hy := hy [(26, [8,12,22])] [(26, [(2, [0,6,7]), (7, [0,3,6,7,10,11])])] [(26, [(23, i ((k + 1 : Nat) : Int)), (30, i ((j + 1 : Nat) : Int))])] []
def h26 : T Lv := symF Try.prog U2 (y26 0 0) 300 (stt Try.prog 26 [prs 1 (fun _ => 0) (fun _ => 0) false])
def O26 (n : Nat) (p q : Nat → Int) (full : Bool) (j : Nat) : AM := hd 26 31 [(0, prs n p q full), (6, i n), (7, i j)] (todoL h26 1) []
def I26 (n : Nat) (p q : Nat → Int) (full : Bool) (j k : Nat) : AM := hd 26 31 [(0, prs n p q full), (3, i j), (6, i n), (7, i j), (10, i j), (11, i k)] (todoL h26 0) []
def TI26 (n : Nat) (p q : Nat → Int) (full : Bool) (j k : Nat) : T Lv :=
  (.br (decide ((k : Int) < (j : Int)))
    (.ck (0 ≤ (j : Int) ∧ (j : Int) < (n : Int))
    (.ck (0 ≤ (k : Int) ∧ (k : Int) < (n : Int))
    (.br (meet (p j) (q j) (p k) (q k))
      (.leaf (.fin (.bool (false))))
      (.ck (i (W ((k : Int) + 1)) = i ((k + 1 : Nat) : Int))
      (.ck (True)
      (.leaf (.to (I26 n p q full j (k + 1)))))))))
    (.ck (0 ≤ (j : Int) ∧ (j : Int) < (n : Int))
    (.br (isX (p j) (q j))
      (.ck (i (W ((j : Int) + 1)) = i ((j + 1 : Nat) : Int))
      (.ck (True)
      (.leaf (.to (O26 n p q full (j + 1))))))
      (.leaf (.fin (.bool (false)))))))
def TO26 (n : Nat) (p q : Nat → Int) (full : Bool) (j : Nat) : T Lv :=
  (.br (decide ((j : Int) < (n : Int))) (TI26 n p q full j 0) (.leaf (.fin (.bool (true)))))
section
variable (n : Nat) (p q : Nat → Int) (full : Bool) (j k : Nat)
theorem e26 : symF Try.prog U2 (y26 0 0) 300 (stt Try.prog 26 [prs n p q full]) = TO26 n p q full 0 := by kernel_rfl
theorem o26 : symF Try.prog U2 (y26 j 0) 300 (O26 n p q full j) = TO26 n p q full j := by kernel_rfl
theorem i26 : symF Try.prog U2 (y26 j k) 300 (I26 n p q full j k) = TI26 n p q full j k := by kernel_rfl
end
section
variable {n : Nat} {p q : Nat → Int} {full : Bool}
theorem wpi26 (hn : n ≤ 1000) {j : Nat} (hj : j < n) (ho : ap p q (j + 1) = true → EndsF Try.prog (O26 n p q full (j + 1)) (· = .bool (ap p q n))) (ha : ap p q j = true) :
    ∀ (d k : Nat), k + d = j → noM p q j k = true → (TI26 n p q full j k).Wp (EndLv Try.prog (· = .bool (ap p q n)))
  | 0, k, hd, hs => by
    obtain rfl : k = j := by omega
    refine ⟨fun h => ?_, fun h => ⟨by omega, fun h1 => ⟨i_eq (W_succ hj (by omega)), trivial, ?_⟩, fun h1 => ?_⟩⟩
    · simp at h
    · exact ho (by unfold ap okJ; rw [ha, h1, hs]; rfl)
    · show AV.bool false = _
      rw [ap_false (by unfold okJ; rw [h1]; rfl) hj]
  | d + 1, k, hd, hs => by
    have hk : k < j := by omega
    refine ⟨fun h => ⟨by omega, by omega, fun h1 => ?_, fun h1 => ⟨i_eq (W_succ hk (by omega)), trivial, ?_⟩⟩, fun h => ?_⟩
    · show AV.bool false = _
      rw [ap_false (j := j) (by unfold okJ; rw [noM_false h1 hk]; simp) hj]
    · exact endsF_of G2 (i26 n p q full j (k + 1)) (wpi26 hn hj ho ha d (k + 1) (by omega) (by unfold noM; rw [hs, h1]; rfl))
    · simp only [decide_eq_false_iff_not] at h; omega
theorem wpo26 (hn : n ≤ 1000) : ∀ (d j : Nat), j + d = n → ap p q j = true → (TO26 n p q full j).Wp (EndLv Try.prog (· = .bool (ap p q n)))
  | 0, j, hd, hs => by
    obtain rfl : j = n := by omega
    refine ⟨fun h => ?_, fun h => ?_⟩
    · simp at h
    · show AV.bool true = _
      rw [hs]
  | d + 1, j, hd, hs => by
    refine ⟨fun h => ?_, fun h => ?_⟩
    · exact wpi26 hn (by omega) (fun ha => endsF_of G2 (o26 n p q full (j + 1)) (wpo26 hn d (j + 1) (by omega) ha)) hs j 0 (by omega) rfl
    · simp only [decide_eq_false_iff_not] at h; omega
theorem start26 (hn : n ≤ 1000) : FnCall Try.prog 26 [prs n p q full] (.bool (ap p q n)) :=
  fn_of_fin G2 (by kernel_rfl) (e26 n p q full) (wpo26 hn n 0 (by omega) rfl)
end

def y27 (j k : Nat) : Hy := hy [(27, [8,15,19,30])] [(27, [(2, [0,3]), (6, [0,3,4,5])])] [(27, [(21, i ((k + 1 : Nat) : Int)), (10, i ((j + 1 : Nat) : Int))])] []
def h27 : T Lv := symF Try.prog U2 (y27 0 0) 300 (stt Try.prog 27 [prs 1 (fun _ => 0) (fun _ => 0) false])
def O27 (n : Nat) (p q : Nat → Int) (full : Bool) (j : Nat) : AM := hd 27 31 [(0, prs n p q full), (3, i j)] (todoL h27 1) []
def I27 (n : Nat) (p q : Nat → Int) (full : Bool) (j k : Nat) : AM := hd 27 31 [(0, prs n p q full), (3, i j), (4, i k), (5, i j)] (todoL h27 0) []
def TI27 (n : Nat) (p q : Nat → Int) (full : Bool) (j k : Nat) : T Lv :=
  (.br (decide ((k : Int) < (j : Int)))
    (.ck (0 ≤ (j : Int) ∧ (j : Int) < (n : Int))
    (.ck (0 ≤ (k : Int) ∧ (k : Int) < (n : Int))
    (.br (meet (p j) (q j) (p k) (q k))
      (.leaf (.fin (.bool (false))))
      (.ck (i (W ((k : Int) + 1)) = i ((k + 1 : Nat) : Int))
      (.ck (True)
      (.leaf (.to (I27 n p q full j (k + 1)))))))))
    (.ck (i (W ((j : Int) + 1)) = i ((j + 1 : Nat) : Int))
    (.ck (True)
    (.leaf (.to (O27 n p q full (j + 1)))))))
def TO27 (n : Nat) (p q : Nat → Int) (full : Bool) (j : Nat) : T Lv :=
  (.br (decide ((j : Int) < (n : Int))) 
    (.ck (0 ≤ (j : Int) ∧ (j : Int) < (n : Int))
    (.br (isX (p j) (q j)) (TI27 n p q full j 0) (.leaf (.fin (.bool (false))))))
    (.leaf (.fin (.bool (true)))))
section
variable (n : Nat) (p q : Nat → Int) (full : Bool) (j k : Nat)
theorem e27 : symF Try.prog U2 (y27 0 0) 300 (stt Try.prog 27 [prs n p q full]) = TO27 n p q full 0 := by kernel_rfl
theorem o27 : symF Try.prog U2 (y27 j 0) 300 (O27 n p q full j) = TO27 n p q full j := by kernel_rfl
theorem i27 : symF Try.prog U2 (y27 j k) 300 (I27 n p q full j k) = TI27 n p q full j k := by kernel_rfl
end
section
variable {n : Nat} {p q : Nat → Int} {full : Bool}
theorem wpi27 (hn : n ≤ 1000) {j : Nat} (hj : j < n) (ho : ap p q (j + 1) = true → EndsF Try.prog (O27 n p q full (j + 1)) (· = .bool (ap p q n))) (ha : ap p q j = true) (hx : isX (p j) (q j) = true) :
    ∀ (d k : Nat), k + d = j → noM p q j k = true → (TI27 n p q full j k).Wp (EndLv Try.prog (· = .bool (ap p q n)))
  | 0, k, hd, hs => by
    obtain rfl : k = j := by omega
    refine ⟨fun h => ?_, fun h => ⟨i_eq (W_succ hj (by omega)), trivial, ?_⟩⟩
    · simp at h
    · exact ho (by unfold ap okJ; rw [ha, hx, hs]; rfl)
  | d + 1, k, hd, hs => by
    have hk : k < j := by omega
    refine ⟨fun h => ⟨by omega, by omega, fun h1 => ?_, fun h1 => ⟨i_eq (W_succ hk (by omega)), trivial, ?_⟩⟩, fun h => ?_⟩
    · show AV.bool false = _
      rw [ap_false (j := j) (by unfold okJ; rw [noM_false h1 hk]; simp) hj]
    · exact endsF_of G2 (i27 n p q full j (k + 1)) (wpi27 hn hj ho ha hx d (k + 1) (by omega) (by unfold noM; rw [hs, h1]; rfl))
    · simp only [decide_eq_false_iff_not] at h; omega
theorem wpo27 (hn : n ≤ 1000) : ∀ (d j : Nat), j + d = n → ap p q j = true → (TO27 n p q full j).Wp (EndLv Try.prog (· = .bool (ap p q n)))
  | 0, j, hd, hs => by
    obtain rfl : j = n := by omega
    refine ⟨fun h => ?_, fun h => ?_⟩
    · simp at h
    · show AV.bool true = _
      rw [hs]
  | d + 1, j, hd, hs => by
    refine ⟨fun h => ⟨by omega, fun hx => ?_, fun hx => ?_⟩, fun h => ?_⟩
    · exact wpi27 hn (by omega) (fun ha => endsF_of G2 (o27 n p q full (j + 1)) (wpo27 hn d (j + 1) (by omega) ha)) hs hx j 0 (by omega) rfl
    · show AV.bool false = _
      rw [ap_false (j := j) (by unfold okJ; rw [hx]; rfl) (by omega)]
    · simp only [decide_eq_false_iff_not] at h; omega
theorem start27 (hn : n ≤ 1000) : FnCall Try.prog 27 [prs n p q full] (.bool (ap p q n)) :=
  fn_of_fin G2 (by kernel_rfl) (e27 n p q full) (wpo27 hn n 0 (by omega) rfl)
end
def F26 : List AV → Option (T AV)
  | [.ls n f 2 full] => some (.ck (isI2 n f (fun j => gi1 (f j)) (fun j => gi2 (f j))) (.leaf (.bool (ap (fun j => gi1 (f j)) (fun j => gi2 (f j)) n))))
  | _ => none
theorem apart_spec {g : FuncId} (h : ∀ (n : Nat) (p q : Nat → Int) (full : Bool), n ≤ 1000 → FnCall Try.prog g [prs n p q full] (.bool (ap p q n))) : FnSpec Try.prog g F26 := by
  intro a t h0
  unfold F26 at h0
  split at h0
  · rename_i n f full
    simp only [Option.some.injEq] at h0; subst h0
    rintro v ⟨h1, hs⟩
    have hs : AV.bool _ = v := hs
    subst hs
    exact FnCall_args (likes_ls (vs := []) h1.2 (fun h => h)) (h n _ _ full h1.1)
  · cases h0
theorem c26 : FnSpec Try.prog 26 F26 := apart_spec fun n p q full hn => start26 hn
theorem c27 : FnSpec Try.prog 27 F26 := apart_spec fun n p q full hn => start27 hn
end
end Go.Proofs.Ytkbfhpahjloidaa
