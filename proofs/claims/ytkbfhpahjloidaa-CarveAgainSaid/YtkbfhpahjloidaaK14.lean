/- Own text of this claim: an abstract machine over the given program form, and what follows from it. No condition. -/
import Derived.Test.YtkbfhpahjloidaaK12
set_option linter.unusedVariables false
set_option linter.unusedSimpArgs false
namespace Go.Proofs.Ytkbfhpahjloidaa
open Go Go.EV
/-! the plain law: two lists, one behind the other -/
theorem rowList_get {f : Nat → AV} : ∀ (k off j : Nat), j < k → (rowList f off k)[j]? = some (f (off + j))
  | 0, _, j, h => by omega
  | k + 1, off, 0, _ => by simp [rowList]
  | k + 1, off, j + 1, h => by
    simp only [rowList, List.getElem?_cons_succ]
    rw [rowList_get k (off + 1) j (by omega), show off + 1 + j = off + (j + 1) by omega]
theorem rowList_len {f : Nat → AV} : ∀ (k off : Nat), (rowList f off k).length = k
  | 0, _ => rfl
  | k + 1, off => by simp only [rowList, List.length_cons, rowList_len k]
theorem rowList_all {f : Nat → AV} (h : ∀ j, notAgg (f j) = true) : ∀ (k off : Nat), (rowList f off k).all notAgg = true
  | 0, _ => rfl
  | k + 1, off => by simp only [rowList, List.all_cons, h, rowList_all h k, Bool.and_self]
theorem allSome_of {g : Nat → Option AV} : ∀ (k off : Nat), (∀ j, off ≤ j → j < off + k → ∃ v, g j = some v) → allSome g off k = true
  | 0, _, _ => rfl
  | k + 1, off, h => by
    obtain ⟨v, hv⟩ := h off (by omega) (by omega)
    unfold allSome
    rw [hv, allSome_of k (off + 1) (fun j h1 h2 => h j (by omega) (by omega))]
    rfl
section
variable {e n m : Nat} {f g : Nat → AV}
theorem tC_lo {j : Nat} (h : j < n * e) : (tC e f n g m).get j = some (f j) := by
  unfold tC
  rw [Tr.setLF_eq, Tr.setLF_eq, Tr.get_setL, if_neg (by rw [Nat.zero_add]; omega), Tr.get_setL, if_pos (by rw [rowList_len]; omega), rowList_get _ _ _ (by omega)]
  rw [show 0 + (j - 0 * e) = j by omega]
theorem tC_hi {j : Nat} (h : j < m * e) : (tC e f n g m).get (n * e + j) = some (g j) := by
  unfold tC
  rw [show (0 + n) * e = n * e by rw [Nat.zero_add]]
  rw [Tr.setLF_eq, Tr.setLF_eq, Tr.get_setL, if_pos (by rw [rowList_len]; omega), rowList_get _ _ _ (by omega)]
  rw [show 0 + (n * e + j - n * e) = j by omega]
theorem cat_lo {j : Nat} (h : j < n * e) : cat e f n g m j = f j := by
  unfold cat
  rw [Nat.zero_add, tC_lo h]; rfl
theorem cat_hi {j : Nat} (h : j < m * e) : cat e f n g m (n * e + j) = g j := by
  unfold cat
  rw [Nat.zero_add, tC_hi h]; rfl
theorem tC_some {k : Nat} (h : k ≤ n * e + m * e) : allSome (tC e f n g m).get 0 k = true := by
  refine allSome_of _ _ fun j _ hj => ?_
  rcases Nat.lt_or_ge j (n * e) with h1 | h1
  · exact ⟨_, tC_lo h1⟩
  · obtain ⟨r, rfl⟩ := Nat.exists_eq_add_of_le h1
    exact ⟨_, tC_hi (by omega)⟩
theorem allI_of {f : Nat → AV} : ∀ (k : Nat), (∀ j, j < k → ∃ x, f j = .int .i64 x) → allI f k = true
  | 0, _ => rfl
  | k + 1, h => by
    obtain ⟨x, hx⟩ := h k (by omega)
    unfold allI
    rw [allI_of k (fun j hj => h j (by omega)), hx]
    rfl
theorem cat_int (hf : ∀ j, ∃ x, f j = .int .i64 x) (hg : ∀ j, ∃ x, g j = .int .i64 x) {k : Nat} (h : k ≤ n * e + m * e) : allI (cat e f n g m) k = true := by
  refine allI_of _ fun j hj => ?_
  rcases Nat.lt_or_ge j (n * e) with h1 | h1
  · rw [cat_lo h1]; exact hf j
  · obtain ⟨r, rfl⟩ := Nat.exists_eq_add_of_le h1
    rw [cat_hi (by omega)]; exact hg r
end
theorem ckA_true {size bytes len n cells : Nat} {c old : Bool} {new : List AV} (h0 : 0 < size) (hb : 0 < bytes) (hb2 : bytes ≤ 16) (hl : len + n ≤ 1000) (hc : c = true) (hn : new.length = cells) (ha : new.all notAgg = true) (ho : old = true) : ckA size bytes len n c cells new old = true := by
  unfold ckA
  have h1 : Nat.ble (bytes * (len + n + 1000) * 4) (2 ^ 47) = true := by
    refine ble_of ?_
    have : bytes * (len + n + 1000) ≤ 16 * 2000 := Nat.mul_le_mul hb2 (by omega)
    omega
  rw [blt_of h0, blt_of hb, h1, hc, lenF_eq, hn, ha, ho]
  simp
theorem fx_true (s z : Int) : fx s z = true := by simp [fx, AV.beq, AV.beqs]
section
variable {s z w : Int} {n m : Nat} {a b : Nat → Int}
theorem wt_same {a c : Nat → Int} : ∀ {j : Nat}, (∀ k, k < j → c k = a k) → wt s z w c j = wt s z w a j
  | 0, _ => rfl
  | j + 1, h => by
    show pW s z (wt s z w c j) (c (0 + j * 1)) = pW s z (wt s z w a j) (a (0 + j * 1))
    rw [wt_same (fun k hk => h k (by omega)), show 0 + j * 1 = j by omega, h j (by omega)]
theorem wt_app {c b : Nat → Int} {n : Nat} : ∀ {j : Nat}, (∀ k, k < j → c (n + k) = b k) → wt s z w c (n + j) = wt s z (wt s z w c n) b j
  | 0, _ => rfl
  | j + 1, h => by
    show pW s z (wt s z w c (n + j)) (c (0 + (n + j) * 1)) = pW s z (wt s z (wt s z w c n) b j) (b (0 + j * 1))
    rw [wt_app (fun k hk => h k (by omega)), show 0 + (n + j) * 1 = n + j by omega, show 0 + j * 1 = j by omega, h j (by omega)]
theorem okB_of {a : Nat → Int} : ∀ {j : Nat}, (∀ k, k < j → pe' s z w a k = 0) → okB s z w a j = true
  | 0, _ => rfl
  | j + 1, h => by
    unfold okB
    rw [okB_of (fun k hk => h k (by omega)), iEq_eq, h j (by omega)]
    rfl
/-- the first that is not given away, or all are -/
theorem first_no (a : Nat → Int) : ∀ (n : Nat), (∀ k, k < n → pe' s z w a k = 0) ∨ ∃ j, j < n ∧ (∀ k, k < j → pe' s z w a k = 0) ∧ pe' s z w a j ≠ 0
  | 0 => .inl fun k hk => by omega
  | n + 1 => by
    rcases first_no a n with h | ⟨j, h1, h2, h3⟩
    · by_cases e : pe' s z w a n = 0
      · left
        intro k hk
        by_cases e2 : k = n
        · rw [e2]; exact e
        · exact h k (by omega)
      · exact .inr ⟨n, by omega, h, e⟩
    · exact .inr ⟨j, by omega, h2, h3⟩

theorem A_eq (j : Nat) : iA (rA a) j = a j := by
  show toI (AV.int .i64 (a (0 + j))) = a j
  rw [Nat.zero_add]; rfl
theorem C_lo {j : Nat} (h : j < n) : iA (rc n m a b) j = iA (rA a) j := by
  rw [A_eq]
  unfold iA rc
  rw [cat_lo (by omega)]; rfl
theorem C_hi {j : Nat} (h : j < m) : iA (rc n m a b) (n + j) = iA (rA b) j := by
  rw [A_eq]
  unfold iA rc
  have := cat_hi (e := 1) (f := row a) (g := row b) (n := n) (m := m) (j := j) (by omega)
  rw [Nat.mul_one] at this
  rw [this]; rfl
theorem wC_lo {j : Nat} (h : j ≤ n) : wt s z w (iA (rc n m a b)) j = wt s z w (iA (rA a)) j := wt_same fun k hk => C_lo (by omega)
theorem wC_hi {j : Nat} (h : j ≤ m) : wt s z w (iA (rc n m a b)) (n + j) = wt s z (wA s z w n a) (iA (rA b)) j := by
  rw [wt_app (b := iA (rA b)) (fun k hk => C_hi (by omega)), wC_lo (Nat.le_refl n)]
  rfl
theorem pC_lo {j : Nat} (h : j < n) : pe' s z w (iA (rc n m a b)) j = pe' s z w (iA (rA a)) j := by
  unfold pe'
  rw [wC_lo (by omega), show 0 + j * 1 = j by omega, C_lo h]
theorem pC_hi {j : Nat} (h : j < m) : pe' s z w (iA (rc n m a b)) (n + j) = pe' s z (wA s z w n a) (iA (rA b)) j := by
  unfold pe'
  rw [wC_hi (by omega), show 0 + (n + j) * 1 = n + j by omega, show 0 + j * 1 = j by omega, C_hi h]
theorem oC_lo {q : Nat} (h : q < n * 2) : cO s z w (iA (rc n m a b)) q = cO s z w (iA (rA a)) q := by
  unfold cO ps' pz'
  rw [wC_lo (by omega), show 0 + q / 2 * 1 = q / 2 by omega, C_lo (by omega)]
theorem oC_hi {q : Nat} (h : q < m * 2) : cO s z w (iA (rc n m a b)) (n * 2 + q) = cO s z (wA s z w n a) (iA (rA b)) q := by
  unfold cO ps' pz'
  rw [show (n * 2 + q) % 2 = q % 2 by omega, show (n * 2 + q) / 2 = n + q / 2 by omega, wC_hi (by omega), show 0 + (n + q / 2) * 1 = n + q / 2 by omega, show 0 + q / 2 * 1 = q / 2 by omega, C_hi (by omega)]

theorem rA_int : allI (rA a) n = true := allI_of _ fun j _ => ⟨_, rfl⟩
theorem K1_true (hn : n ≤ 60) (h : ∀ k, k < n → pe' s z w (iA (rA a)) k = 0) : K1 s z w n a = true := by
  unfold K1
  rw [ble_of (by omega), ble_of (by omega), rA_int, okB_of h]; rfl
theorem K3_true (hm : m ≤ 60) (h : ∀ k, k < m → pe' s z (wA s z w n a) (iA (rA b)) k = 0) : K3 s z w n m a b = true := by
  unfold K3
  rw [ble_of (by omega), ble_of (by omega), rA_int, okB_of h]; rfl
theorem rowb_len : lenF (rowList (row b) 0 (m * 1)) 0 = m := by
  rw [lenF_eq, rowList_len]; omega
theorem iEq_no {x : Int} (h : x ≠ 0) : (!iEq x 0) = true := by
  rw [iEq_eq, Bool.not_eq_true', beq_eq_false_iff_ne]; exact h
theorem iEq_self (x : Int) : iEq x x = true := by rw [iEq_eq]; simp
theorem K1n_true (hn : n ≤ 60) {j : Nat} (hj : j < n) (h : ∀ k, k < j → pe' s z w (iA (rA a)) k = 0) (hf : pe' s z w (iA (rA a)) j ≠ 0) : K1n s z w n a j = true := by
  unfold K1n
  rw [ble_of (by omega), ble_of (by omega), rA_int, okB_of h, blt_of hj, iEq_no hf]; rfl
theorem K3n_true (hm : m ≤ 60) {j : Nat} (hj : j < m) (h : ∀ k, k < j → pe' s z (wA s z w n a) (iA (rA b)) k = 0) (hf : pe' s z (wA s z w n a) (iA (rA b)) j ≠ 0) : K3n s z w n m a b j = true := by
  unfold K3n
  rw [ble_of (by omega), ble_of (by omega), rA_int, okB_of h, blt_of hj, iEq_no hf]; rfl
theorem rc_int : allI (rc n m a b) (0 + n + m) = true := cat_int (fun j => ⟨_, rfl⟩) (fun j => ⟨_, rfl⟩) (by omega)
theorem K2_true (hn : n ≤ 60) (hm : m ≤ 60) (h1 : ∀ k, k < n → pe' s z w (iA (rA a)) k = 0) (h2 : ∀ k, k < m → pe' s z (wA s z w n a) (iA (rA b)) k = 0) : K2 s z w n m a b = true := by
  unfold K2
  rw [ble_of (by omega), rowb_len, ble_of (by omega), tC_some (by omega), rc_int, okB_of ?_]
  · rfl
  · intro k hk
    rcases Nat.lt_or_ge k n with h | h
    · rw [pC_lo h]; exact h1 k h
    · obtain ⟨r, rfl⟩ := Nat.exists_eq_add_of_le h
      rw [pC_hi (by omega)]; exact h2 r (by omega)
theorem K2n_lo (hn : n ≤ 60) (hm : m ≤ 60) {j : Nat} (hj : j < n) (h : ∀ k, k < j → pe' s z w (iA (rA a)) k = 0) (hf : pe' s z w (iA (rA a)) j ≠ 0) : K2n s z w n m a b j = true := by
  unfold K2n
  rw [ble_of (by omega), rowb_len, ble_of (by omega), tC_some (by omega), rc_int, okB_of (fun k hk => by rw [pC_lo (by omega)]; exact h k hk), blt_of (by omega), iEq_no (by rw [pC_lo hj]; exact hf)]
  rfl
theorem K2n_hi (hn : n ≤ 60) (hm : m ≤ 60) (h1 : ∀ k, k < n → pe' s z w (iA (rA a)) k = 0) {j : Nat} (hj : j < m) (h : ∀ k, k < j → pe' s z (wA s z w n a) (iA (rA b)) k = 0) (hf : pe' s z (wA s z w n a) (iA (rA b)) j ≠ 0) : K2n s z w n m a b (n + j) = true := by
  unfold K2n
  rw [ble_of (by omega), rowb_len, ble_of (by omega), tC_some (by omega), rc_int, okB_of (fun k hk => ?_), blt_of (by omega), iEq_no (by rw [pC_hi hj]; exact hf)]
  · rfl
  · rcases Nat.lt_or_ge k n with h3 | h3
    · rw [pC_lo h3]; exact h1 k h3
    · obtain ⟨r, rfl⟩ := Nat.exists_eq_add_of_le h3
      rw [pC_hi (by omega)]; exact h r (by omega)
theorem A1_true (hn : n ≤ 60) (h0 : 0 < n) : A1c n a = true := by
  unfold A1c
  rw [ckA_true (by omega) (by omega) (by omega) (by omega) (by rw [ble_of (by omega), ble_of (by omega)]; rfl) (rowList_len _ _) (rowList_all (fun _ => rfl) _ _)]
  · rfl
  · show (!(Nat.ble (0 + n) 0)) = true
    cases n with
    | zero => omega
    | succ n => rw [Nat.zero_add]; rfl
theorem A2_true (hn : n ≤ 60) (hm : m ≤ 60) : A2c n m a b = true := by
  unfold A2c
  refine ckA_true (by omega) (by omega) (by omega) (by omega) (by rw [ble_of (by omega), ble_of (by omega)]; rfl) (rowList_len _ _) (rowList_all (fun _ => rfl) _ _) ?_
  rw [lenF_eq, rowList_len, show 0 * 1 + n * 1 = (0 + n) * 1 by omega]
  simp
theorem A3_true (hn : n ≤ 60) (h0 : 0 < n) : A3c s z w n a = true := by
  unfold A3c
  rw [ckA_true (by omega) (by omega) (by omega) (by omega) (by rw [ble_of (by omega), ble_of (by omega), allSome_of _ _ (fun j _ _ => ⟨_, rfl⟩)]; rfl) (rowList_len _ _) (rowList_all (fun _ => rfl) _ _)]
  · rfl
  · show (!(Nat.ble (0 + n) 0)) = true
    cases n with
    | zero => omega
    | succ n => rw [Nat.zero_add]; rfl
theorem A3m_true (hm : m ≤ 60) (h0 : 0 < m) : A3m s z w m a b = true := by
  unfold A3m
  rw [ckA_true (by omega) (by omega) (by omega) (by omega) (by rw [ble_of (by omega), ble_of (by omega), allSome_of _ _ (fun j _ _ => ⟨_, rfl⟩)]; rfl) (rowList_len _ _) (rowList_all (fun _ => rfl) _ _)]
  · rfl
  · show (!(Nat.ble (0 + m) 0)) = true
    cases m with
    | zero => omega
    | succ n => rw [Nat.zero_add]; rfl
theorem A4_true (hn : n ≤ 60) (hm : m ≤ 60) : A4c s z w n m a b = true := by
  unfold A4c
  refine ckA_true (by omega) (by omega) (by omega) (by omega) (by rw [ble_of (by omega), ble_of (by omega), allSome_of _ _ (fun j _ _ => ⟨_, rfl⟩)]; rfl) (rowList_len _ _) (rowList_all (fun _ => rfl) _ _) ?_
  rw [lenF_eq, rowList_len, show 0 * 2 + n * 2 = (0 + n) * 2 by omega]
  simp
theorem eqI_of {f g : Nat → AV} : ∀ (k : Nat), (∀ j, j < k → toI (f j) = toI (g j)) → eqI f g k = true
  | 0, _ => rfl
  | k + 1, h => by
    unfold eqI
    rw [eqI_of k (fun j hj => h j (by omega)), h k (by omega), iEq_self]; rfl
theorem K5_true (hn : n ≤ 60) (hm : m ≤ 60) : K5 s z w n m a b = true := by
  unfold K5
  have e1 : allI (rp s z w n m a b) ((0 + n + m) * 2) = true := cat_int (fun j => ⟨_, rfl⟩) (fun j => ⟨_, rfl⟩) (by omega)
  have e2 : allI (fun j => pC s z w n m a b (0 + j)) ((0 + n + m) * 2) = true := allI_of _ (fun j _ => ⟨_, rfl⟩)
  rw [ble_of (by omega), ble_of (by omega), lenF_eq, rowList_len, ble_of (by omega), allSome_of _ _ (fun j _ _ => ⟨_, rfl⟩), tC_some (by omega), e2, e1, eqI_of _ (fun j hj => ?_)]
  · simp
  · show cO s z w (iA (rc n m a b)) (0 + j) = toI (rp s z w n m a b j)
    rw [Nat.zero_add]
    unfold rp
    rcases Nat.lt_or_ge j (n * 2) with h | h
    · rw [cat_lo h, oC_lo h]; rfl
    · obtain ⟨r, rfl⟩ := Nat.exists_eq_add_of_le h
      rw [cat_hi (by omega), oC_hi (by omega)]; rfl
theorem vu : iEq (vA s z w n m a b) (uB s z w n m a b) = true := by
  unfold vA uB
  rw [show 0 + n + m = n + m by omega, wC_hi (Nat.le_refl m)]
  exact iEq_self _
end
end Go.Proofs.Ytkbfhpahjloidaa
