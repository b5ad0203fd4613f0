/- Own text of this claim: an abstract machine over the given program form, and what follows from it. No condition. -/
import Derived.Test.YtkbfhpahjloidaaG4
set_option linter.unusedVariables false
set_option linter.unusedSimpArgs false
namespace Go.Proofs.Ytkbfhpahjloidaa
open Go Go.EV
noncomputable section
/-! general -/
theorem FnCall_args {P : Program} {f : FuncId} {args args' : List AV} {v : AV} (hl : ∀ ρ cs, VRs ρ args cs → VRs ρ args' cs) (h : FnCall P f args' v) : FnCall P f args v :=
  fun fz w cargs hf hv => h fz w cargs hf (hl _ _ hv)
theorem updE_pair (p q : Nat → Int) (j : Nat) (x y : Int) : updE (fun k => [i (p k), i (q k)]) j [i x, i y] = fun k => [i (bif Nat.beq k j then x else p k), i (bif Nat.beq k j then y else q k)] := by
  funext k
  unfold updE
  cases Nat.beq k j <;> rfl
theorem free_pair (p q : Nat → Int) (k : Nat) : FreeL [i (p k), i (q k)] := FreeL.of rfl
theorem freeE_pair (n : Nat) (p q : Nat → Int) : FreeE 2 n fun k => [i (p k), i (q k)] := FreeE.of (by decide) fun k _ => free_pair p q k
theorem i_eq {a b : Int} (h : a = b) : i a = i b := by rw [h]
theorem W_succ {j n : Nat} (h : j < n) (hn : n ≤ 100000) : W ((j : Int) + 1) = ((j + 1 : Nat) : Int) := by
  rw [W_in _ (by omega)]; rfl

/-! many pieces -/
def code (s z a m : Int) : Int := bif okc s z a m then (bif decide (cvW s a m ≤ z) then 0 else 5) else 2
section
variable (s z w : Int) (l : Nat → Int)
def wt : Nat → Int
  | 0 => w
  | j + 1 => cvW s (wt j) (l j)
def er : Nat → Int
  | 0 => 0
  | j + 1 => bif er j == 0 then code s z (wt s w l j) (l j) else er j
end
theorem er_stay {s z w : Int} {l : Nat → Int} {j : Nat} {e : Int} (he : e ≠ 0) (h : er s z w l j = e) : ∀ d, er s z w l (j + d) = e
  | 0 => h
  | d + 1 => by
    show (bif er s z w l (j + d) == 0 then _ else er s z w l (j + d)) = e
    rw [er_stay he h d, show (e == 0) = false by simpa using he]; rfl
theorem er_end {s z w : Int} {l : Nat → Int} {j n : Nat} {e : Int} (he : e ≠ 0) (h0 : er s z w l j = 0) (hj : j < n) (h : code s z (wt s w l j) (l j) = e) : er s z w l n = e := by
  obtain ⟨d, rfl⟩ := Nat.exists_eq_add_of_lt hj
  rw [show j + d + 1 = j + 1 + d by omega]
  refine er_stay he ?_ d
  show (bif er s z w l j == 0 then _ else er s z w l j) = e
  rw [h0]; exact h
/-- what comes of many -/
def manyV (s z w : Int) (n : Nat) (l : Nat → Int) : AV :=
  bif er s z w l n == 0 then .tup [.ls n (fun k => [i (cvS s (wt s w l k) (l k)), i (l k)]) 2 false, i (wt s w l n), i 0] else .tup [.nilsl, i w, i (er s z w l n)]

def y23 (j : Nat) : Hy := hy [(23, [20])] [(23, [(2, [1,2,3,9,10,18,19])])] [(23, [(40, i ((j + 1 : Nat) : Int))])] [(23, [15])]
def td23 : List AItem := todoL (symF Try.prog U2 (y23 0) 300 (stt Try.prog 23 [ext 0 0, i 0, .ls 1 (fun j => [i 0]) 1 false])) 0
def S23 (s z w : Int) (n : Nat) (l : Nat → Int) (full : Bool) (a : Int) (F : Nat → List AV) (j : Nat) : AM :=
  hd 23 43 [(1, i w), (2, .ls n (fun j => [i (l j)]) 1 full), (3, .ptr 8 0), (9, .es 9 0 n (some n) 2), (10, i a), (18, i n), (19, i j)] td23 [.row 2 [i s, i z] .nil, .els 2 n F]
section
variable (s z w : Int) (n : Nat) (l : Nat → Int) (full : Bool)
theorem e23 : symF Try.prog U2 (y23 0) 300 (stt Try.prog 23 [ext s z, i w, .ls n (fun j => [i (l j)]) 1 full]) =
  (.ck (0 ≤ (n : Int) ∧ (n : Int) ≤ (n : Int) ∧ 16 * n ≤ 2 ^ 47 ∧ n ≤ 2 ^ 47)
  (.br (decide (0 < (n : Int)))
    (.ck (0 ≤ (0 : Int) ∧ 0 < (n : Int))
    (.br (okc s z w (l 0))
      (.br (decide (cvW s w (l 0) ≤ z))
        (.ck (0 ≤ (0 : Int) ∧ 0 < (n : Int))
        (.ck (i (W (0 + 1)) = i ((0 + 1 : Nat) : Int))
        (.ck (FreeE 2 n (updE (fun x => [i 0, i 0]) 0 [i (cvS s w (l 0)), i (l 0)]) ∧ True)
        (.leaf (.to (S23 s z w n l full (cvW s w (l 0)) (updE (fun x => [i 0, i 0]) 0 [i (cvS s w (l 0)), i (l 0)]) 1))))))
        (.ck (0 ≤ (0 : Int) ∧ 0 < (n : Int))
        (.leaf (.fin (.tup [.nilsl, i w, i 5])))))
      (.ck (0 ≤ (0 : Int) ∧ 0 < (n : Int))
      (.leaf (.fin (.tup [.nilsl, i w, i 2]))))))
    (.ck (∀ (k : Nat), k < n → FreeL [i 0, i 0])
    (.leaf (.fin (.tup [.ls n (fun _ => [i 0, i 0]) 2 (Nat.beq n n), i w, i 0])))))) := by kernel_rfl
theorem t23 (a : Int) (p q : Nat → Int) (j : Nat) : symF Try.prog U2 (y23 j) 300 (S23 s z w n l full a (fun k => [i (p k), i (q k)]) j) =
  (.br (decide ((j : Int) < (n : Int)))
    (.ck (0 ≤ (j : Int) ∧ (j : Int) < (n : Int))
    (.br (okc s z a (l j))
      (.br (decide (cvW s a (l j) ≤ z))
        (.ck (0 ≤ (j : Int) ∧ (j : Int) < (n : Int))
        (.ck (i (W ((j : Int) + 1)) = i ((j + 1 : Nat) : Int))
        (.ck (FreeE 2 n (updE (fun k => [i (p k), i (q k)]) (addZ 0 j) [i (cvS s a (l j)), i (l j)]) ∧ True)
        (.leaf (.to (S23 s z w n l full (cvW s a (l j)) (updE (fun k => [i (p k), i (q k)]) (addZ 0 j) [i (cvS s a (l j)), i (l j)]) (j + 1)))))))
        (.ck (0 ≤ (j : Int) ∧ (j : Int) < (n : Int))
        (.leaf (.fin (.tup [.nilsl, i w, i 5])))))
      (.ck (0 ≤ (j : Int) ∧ (j : Int) < (n : Int))
      (.leaf (.fin (.tup [.nilsl, i w, i 2]))))))
    (.ck (∀ (k : Nat), k < n → FreeL [i (p (addZ 0 k)), i (q (addZ 0 k))])
    (.leaf (.fin (.tup [.ls n (fun k => [i (p (addZ 0 k)), i (q (addZ 0 k))]) 2 (Nat.beq n n), i a, i 0]))))) := by kernel_rfl
end
theorem code_bad {s z a m : Int} (h : okc s z a m = false) : code s z a m = 2 := by unfold code; rw [h]; rfl
theorem code_full {s z a m : Int} (h : okc s z a m = true) (h2 : ¬ cvW s a m ≤ z) : code s z a m = 5 := by unfold code; rw [h, decide_eq_false h2]; rfl
theorem code_ok {s z a m : Int} (h : okc s z a m = true) (h2 : cvW s a m ≤ z) : code s z a m = 0 := by unfold code; rw [h, decide_eq_true h2]; rfl
theorem many_bad {s z w : Int} {n : Nat} {l : Nat → Int} {e : Int} (he : e ≠ 0) (h : er s z w l n = e) : manyV s z w n l = .tup [.nilsl, i w, i e] := by
  unfold manyV
  rw [h, show (e == 0) = false by simpa using he]; rfl
theorem many_ok {s z w : Int} {n : Nat} {l : Nat → Int} (h : er s z w l n = 0) : manyV s z w n l = .tup [.ls n (fun k => [i (cvS s (wt s w l k) (l k)), i (l k)]) 2 false, i (wt s w l n), i 0] := by
  unfold manyV
  rw [h]; rfl
theorem er_succ {s z w : Int} {l : Nat → Int} {j : Nat} (h : er s z w l j = 0) (h2 : code s z (wt s w l j) (l j) = 0) : er s z w l (j + 1) = 0 := by
  show (bif er s z w l j == 0 then _ else er s z w l j) = 0
  rw [h]; exact h2
theorem addZ0 (j : Nat) : addZ 0 j = j := rfl
theorem like_many {s z w : Int} {n : Nat} {l : Nat → Int} {f : Nat → List AV} {full : Bool} (h : er s z w l n = 0) (hf : ∀ k, k < n → f k = [i (cvS s (wt s w l k) (l k)), i (l k)]) : Like (.tup [.ls n f 2 full, i (wt s w l n), i 0]) (manyV s z w n l) := by
  rw [many_ok h]
  exact Like.tup (likes_cons (Like.ls hf (fun h => by cases h)) (likes_cons Like.rfl (likes_cons Like.rfl likes_nil)))
section
variable {s z w : Int} {n : Nat} {l : Nat → Int} {full : Bool}
theorem loop23 (hn : n ≤ 1000) : ∀ (d j : Nat) (p q : Nat → Int), j + d = n → er s z w l j = 0 → (∀ k, k < j → p k = cvS s (wt s w l k) (l k) ∧ q k = l k) →
    EndsF Try.prog (S23 s z w n l full (wt s w l j) (fun k => [i (p k), i (q k)]) j) (fun v => Like v (manyV s z w n l))
  | 0, j, p, q, hd, he, hp => by
    obtain rfl : j = n := by omega
    refine endsF_of G2 (t23 s z w j l full (wt s w l j) p q j) ⟨fun h => ?_, fun h => ⟨fun k _ => free_pair p q _, ?_⟩⟩
    · simp at h
    · refine like_many he fun k hk => ?_
      rw [addZ0, (hp k hk).1, (hp k hk).2]
  | d + 1, j, p, q, hd, he, hp => by
    have hj : j < n := by omega
    refine endsF_of G2 (t23 s z w n l full (wt s w l j) p q j) ⟨fun h => ⟨by omega, fun h1 => ⟨fun h2 => ?_, fun h2 => ⟨by omega, ?_⟩⟩, fun h1 => ⟨by omega, ?_⟩⟩, fun h => ?_⟩
    · simp only [decide_eq_true_eq] at h2
      refine ⟨by omega, i_eq (W_succ hj (by omega)), ⟨?_, trivial⟩, ?_⟩
      · rw [updE_pair]; exact freeE_pair _ _ _
      · show EndsF _ _ _
        rw [updE_pair]
        refine loop23 hn d (j + 1) _ _ (by omega) (er_succ he (code_ok h1 h2)) fun k hk => ?_
        rw [addZ0]
        by_cases e : k = j
        · subst e; simp
        · have : Nat.beq k j = false := by
            cases hb : Nat.beq k j with
            | false => rfl
            | true => exact absurd (Nat.eq_of_beq_eq_true hb) e
          rw [this]
          exact hp k (by omega)
    · simp only [decide_eq_false_iff_not] at h2
      show Like _ _
      rw [many_bad (by decide) (er_end (by decide) he hj (code_full h1 h2))]
      exact Like.rfl
    · show Like _ _
      rw [many_bad (by decide) (er_end (by decide) he hj (code_bad h1))]
      exact Like.rfl
    · simp only [decide_eq_false_iff_not] at h; omega
theorem start23 (hn : n ≤ 1000) : EndsF Try.prog (stt Try.prog 23 [ext s z, i w, .ls n (fun j => [i (l j)]) 1 full]) (fun v => Like v (manyV s z w n l)) := by
  refine endsF_of G2 (e23 s z w n l full) ⟨by omega, fun h => ⟨by simp at h; omega, fun h1 => ⟨fun h2 => ?_, fun h2 => ?_⟩, fun h1 => ?_⟩, fun h => ⟨fun k _ => FreeL.of rfl, ?_⟩⟩
  · simp only [decide_eq_true_eq] at h h2
    refine ⟨by omega, i_eq (W_succ (j := 0) (n := n) (by omega) (by omega)), ⟨?_, trivial⟩, ?_⟩
    · rw [updE_pair (fun _ => 0) (fun _ => 0)]; exact freeE_pair _ _ _
    · show EndsF _ _ _
      rw [updE_pair (fun _ => 0) (fun _ => 0)]
      refine loop23 (full := full) hn (n - 1) 1 _ _ (by omega) (er_succ rfl (code_ok h1 h2)) fun k hk => ?_
      obtain rfl : k = 0 := by omega
      exact ⟨rfl, rfl⟩
  · simp only [decide_eq_true_eq, decide_eq_false_iff_not] at h h2
    refine ⟨by omega, ?_⟩
    show Like _ _
    rw [many_bad (by decide) (er_end (j := 0) (by decide) rfl (by omega) (code_full h1 h2))]
    exact Like.rfl
  · simp only [decide_eq_true_eq] at h
    refine ⟨by omega, ?_⟩
    show Like _ _
    rw [many_bad (by decide) (er_end (j := 0) (by decide) rfl (by omega) (code_bad h1))]
    exact Like.rfl
  · obtain rfl : n = 0 := by simp at h; omega
    exact like_many rfl fun k hk => by omega
end

/-! lists of numbers -/
def gi : List AV → Int
  | [.int .i64 n] => n
  | _ => 0
def isI (n : Nat) (f : Nat → List AV) : Prop := n ≤ 1000 ∧ ∀ j, j < n → f j = [i (gi (f j))]
def F23 : List AV → Option (T AV)
  | [.agg [.int .i64 s, .int .i64 z], .int .i64 w, .ls n f 1 full] => some (.ck (isI n f) (.br (er s z w (fun j => gi (f j)) n == 0) (.leaf (.tup [.ls n (fun k => [i (cvS s (wt s w (fun j => gi (f j)) k) (gi (f k))), i (gi (f k))]) 2 false, i (wt s w (fun j => gi (f j)) n), i 0])) (.leaf (.tup [.nilsl, i w, i (er s z w (fun j => gi (f j)) n)]))))
  | _ => none
theorem likes_ls {n e : Nat} {f f' : Nat → List AV} {full full' : Bool} {vs : List AV} (hf : ∀ k, k < n → f k = f' k) (hfull : full' = true → full = true) : ∀ ρ cs, VRs ρ (.ls n f e full :: vs) cs → VRs ρ (.ls n f' e full' :: vs) cs :=
  likes_cons (Like.ls hf hfull) (fun _ _ h => h)
theorem many_spec {g : FuncId} (h : ∀ (s z w : Int) (n : Nat) (l : Nat → Int) (full : Bool), n ≤ 1000 → FnCall Try.prog g [ext s z, i w, .ls n (fun j => [i (l j)]) 1 full] (manyV s z w n l)) : FnSpec Try.prog g F23 := by
  intro a t h0
  unfold F23 at h0
  split at h0
  · rename_i s z w n f full
    simp only [Option.some.injEq] at h0; subst h0
    rintro v ⟨⟨hn, hf⟩, hs⟩
    have hc := FnCall_args (likes_cons Like.rfl (likes_cons Like.rfl (likes_ls (vs := []) hf (fun h => h)))) (h s z w n (fun j => gi (f j)) full hn)
    unfold manyV at hc
    rcases hs with ⟨hb, hs⟩ | ⟨hb, hs⟩
    · rw [hb] at hc
      have hs : AV.tup _ = v := hs
      subst hs; exact hc
    · rw [hb] at hc
      have hs : AV.tup _ = v := hs
      subst hs; exact hc
  · cases h0
theorem c23 : FnSpec Try.prog 23 F23 := many_spec fun s z w n l full hn => by
  obtain ⟨v, h1, h2⟩ := fn_of_endsF (by kernel_rfl) (start23 (s := s) (z := z) (w := w) (l := l) (full := full) hn)
  exact h2.like h1
end
end Go.Proofs.Ytkbfhpahjloidaa
