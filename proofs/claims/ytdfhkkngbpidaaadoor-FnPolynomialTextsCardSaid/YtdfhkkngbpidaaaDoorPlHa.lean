/-
  PLAIN LAWS, DRAWS: the numbers of a source, which a loop may ask for while they are 0 mod 3, are five times one behind the other not 0 mod 3 before long, from any state.
-/
namespace Go.Proofs.YtdfhkkngbpidaaaDoor.Pl
set_option linter.unusedVariables false
/-- The next state of a source. -/
def nx (h : Nat) : Nat := (h * 6364136223846793005 + 1442695040888963407) % 18446744073709551616
/-- The number that a state shows. -/
def ou (h : Nat) : Nat := h / 8589934592 % 16777216
theorem nx_eq (h : Nat) : nx h = (h * 6364136223846793005 + 1442695040888963407) % 18446744073709551616 := rfl
theorem ou_eq (h : Nat) : ou h = h / 8589934592 % 16777216 := rfl
attribute [irreducible] nx ou
/-- n times a function. -/
def itr (f : Nat → Nat) : Nat → Nat → Nat
  | 0, h => h
  | n + 1, h => itr f n (f h)
theorem itr_zero (f : Nat → Nat) (h : Nat) : itr f 0 h = h := rfl
theorem itr_succ (f : Nat → Nat) (n h : Nat) : itr f (n + 1) h = itr f n (f h) := rfl
attribute [irreducible] itr
/-- n states on. -/
def itn (n h : Nat) : Nat := itr nx n h
theorem itn_zero (h : Nat) : itn 0 h = h := itr_zero nx h
theorem itn_succ (n h : Nat) : itn (n + 1) h = itn n (nx h) := itr_succ nx n h
attribute [irreducible] itn
theorem itn_add (m n : Nat) : ∀ h, itn (m + n) h = itn n (itn m h) := by
  induction m with
  | zero => intro h; rw [Nat.zero_add, itn_zero]
  | succ k ih => intro h; rw [show k + 1 + n = (k + n) + 1 by omega, itn_succ, itn_succ, ih]
theorem itn_one (h : Nat) : itn 1 h = nx h := by rw [itn_succ, itn_zero]
theorem nx_mod (h M k : Nat) (hM : M * k = 18446744073709551616) : nx h % M = (h % M * 6364136223846793005 + 1442695040888963407) % M := by
  rw [nx_eq, ← hM, Nat.mod_mul_right_mod, Nat.add_mod, Nat.mul_mod]
  conv => rhs; rw [Nat.add_mod, Nat.mul_mod, Nat.mod_mod]
theorem nx_same {M k : Nat} (hM : M * k = 18446744073709551616) {h g : Nat} (e : h % M = g % M) : nx h % M = nx g % M := by
  rw [nx_mod h M k hM, nx_mod g M k hM, e]
theorem itn_same {M k : Nat} (hM : M * k = 18446744073709551616) (n : Nat) : ∀ {h g : Nat}, h % M = g % M → itn n h % M = itn n g % M := by
  induction n with
  | zero => intro h g e; rw [itn_zero, itn_zero]; exact e
  | succ j ih => intro h g e; rw [itn_succ, itn_succ]; exact ih (nx_same hM e)
/-- 2^k states on, as one multiplication and one addition (k below 34). -/
def acL : List (Nat × Nat) := [
  (6364136223846793005, 1442695040888963407),
  (7520897724310334953, 1876011003808476466),
  (18108194425815612945, 7401132627792533940),
  (13086856194709077281, 6566661184467396264),
  (10186629832379121217, 3646985772805368400),
  (10828933358287359105, 982119659650238624),
  (4910590176156014849, 10607473198416945472),
  (9908147928152388097, 6914523672464851584),
  (146241703003251713, 4689171378020353280),
  (7321387688379467777, 8103286608563669504),
  (12255457568021647361, 7710372194127975424),
  (9867978473775767553, 16043993925053589504),
  (5088048636545613825, 1993901509916512256),
  (2150478223927705601, 13175896319671181312),
  (9196835419631190017, 1993366741509554176),
  (5957860013156466689, 7241871532530761728),
  (10389140232424652801, 9829074100562493440),
  (13023643825678581761, 7211655632440131584),
  (288945459443007489, 14014807304630960128),
  (13413133364217511937, 15586959662575517696),
  (8991946233350193153, 5614651135149211648),
  (1986842707489718273, 10449321915693662208),
  (13772462672974970881, 17778722412968280064),
  (11399802156803424257, 4631015078550831104),
  (13559343778149433345, 14683519683525607424),
  (8604389488178757633, 14159509325327892480),
  (16938562998715285505, 4382386631181598720),
  (14349518013152100353, 5251965553014210560),
  (5928836310318972929, 14899444342342025216),
  (13010594125244792833, 10487453482519363584),
  (12186130195207421953, 17516142451218186240),
  (5925516316705292289, 2750482773444657152),
  (11851032633410584577, 5500965546889314304),
  (5255321193111617537, 11001931093778628608)]
def ac (k : Nat) : Nat × Nat := acL.getD k (0, 0)
def acOk (k : Nat) : Bool := (ac (k + 1)).1 == (ac k).1 * (ac k).1 % 18446744073709551616 && (ac (k + 1)).2 == ((ac k).1 * (ac k).2 + (ac k).2) % 18446744073709551616
theorem ac_all : ∀ k, k < 33 → acOk k = true := by decide +kernel
theorem itn_pow (k : Nat) (hk : k ≤ 33) : ∀ h, itn (2 ^ k) h % 18446744073709551616 = (h * (ac k).1 + (ac k).2) % 18446744073709551616 := by
  induction k with
  | zero => intro h; rw [show 2 ^ 0 = 1 from rfl, itn_one, show ac 0 = (6364136223846793005, 1442695040888963407) from rfl]; rw [nx_eq, Nat.mod_mod]
  | succ j ih =>
    intro h
    have ih := ih (by omega)
    have ho := ac_all j (by omega)
    unfold acOk at ho
    simp only [Bool.and_eq_true, beq_iff_eq] at ho
    rw [ho.1, ho.2, Nat.pow_succ, Nat.mul_two, itn_add, ih]
    rw [Nat.add_mod, Nat.mul_mod, ih h]
    rw [← Nat.mul_mod, ← Nat.add_mod]
    generalize (ac j).1 = A
    generalize (ac j).2 = C
    have e : (h * A + C) * A + C = h * (A * A) + (A * C + C) := by
      rw [Nat.add_mul, Nat.mul_assoc, Nat.mul_comm C A, Nat.add_assoc]
    have e2 : h * (A * A % 18446744073709551616) % 18446744073709551616 = h * (A * A) % 18446744073709551616 := by
      rw [Nat.mul_mod, Nat.mod_mod, ← Nat.mul_mod]
    rw [e, Nat.add_mod (h * (A * A)), Nat.add_mod (h * (A * A % 18446744073709551616)), e2, Nat.mod_mod]
/-! ### any 33 low bits are met -/
def lowOk (k : Nat) : Bool := (ac k).1 % 2 ^ (k + 1) == 1 % 2 ^ (k + 1) && (ac k).2 % 2 ^ (k + 1) == 2 ^ k
theorem low_all : ∀ k, k < 33 → lowOk k = true := by decide +kernel
theorem pow_dvd (k : Nat) (h : k ≤ 64) : 2 ^ k * 2 ^ (64 - k) = 18446744073709551616 := by
  rw [← Nat.pow_add, show k + (64 - k) = 64 by omega]
theorem mod_of_mod {a b M k : Nat} (hM : M * k = 18446744073709551616) (e : a % 18446744073709551616 = b % 18446744073709551616) : a % M = b % M := by
  have h1 : a % 18446744073709551616 % M = a % M := by rw [← hM, Nat.mod_mul_right_mod]
  have h2 : b % 18446744073709551616 % M = b % M := by rw [← hM, Nat.mod_mul_right_mod]
  rw [← h1, ← h2, e]
/-- 2^k states on: the low k bits are as before, the next one has turned. -/
theorem low_turn (k : Nat) (hk : k < 33) (h : Nat) : itn (2 ^ k) h % 2 ^ (k + 1) = (h + 2 ^ k) % 2 ^ (k + 1) := by
  have hl := low_all k hk
  unfold lowOk at hl
  simp only [Bool.and_eq_true, beq_iff_eq] at hl
  rw [mod_of_mod (pow_dvd (k + 1) (by omega)) (itn_pow k (by omega) h), Nat.add_mod, Nat.mul_mod, hl.1, hl.2, ← Nat.mul_mod, Nat.mul_one]
  conv => rhs; rw [Nat.add_mod]
  rw [Nat.mod_eq_of_lt (show 2 ^ k < 2 ^ (k + 1) from Nat.pow_lt_pow_right (by decide) (by omega))]
theorem low_reach (g : Nat) : ∀ k, k ≤ 33 → ∀ h, ∃ N, N < 2 ^ k ∧ itn N h % 2 ^ k = g % 2 ^ k := by
  intro k
  induction k with
  | zero => intro _ h; exact ⟨0, by decide, by rw [Nat.pow_zero, Nat.mod_one, Nat.mod_one]⟩
  | succ j ih =>
    intro hk h
    obtain ⟨N, hN, e⟩ := ih (by omega) h
    have hp : 2 ^ (j + 1) = 2 ^ j + 2 ^ j := by rw [Nat.pow_succ, Nat.mul_two]
    have hpos : 0 < 2 ^ j := Nat.pow_pos (by decide)
    by_cases hs : itn N h % 2 ^ (j + 1) = g % 2 ^ (j + 1)
    · exact ⟨N, by omega, hs⟩
    · refine ⟨N + 2 ^ j, by omega, ?_⟩
      rw [itn_add, low_turn j (by omega)]
      generalize itn N h = x at *
      generalize 2 ^ j = P at *
      rw [hp] at hs ⊢
      have d1 := Nat.mod_add_div x (P + P)
      have d2 := Nat.mod_add_div g (P + P)
      have l1 := Nat.mod_lt x (show 0 < P + P by omega)
      have l2 := Nat.mod_lt g (show 0 < P + P by omega)
      have m1 : x % (P + P) % P = x % P := by rw [← Nat.mul_two, Nat.mod_mul_right_mod]
      have m2 : g % (P + P) % P = g % P := by rw [← Nat.mul_two, Nat.mod_mul_right_mod]
      rw [Nat.add_mod, Nat.mod_eq_of_lt (show P < P + P by omega)]
      generalize x % (P + P) = y at *
      generalize g % (P + P) = z at *
      have q1 : y % P = z % P := by rw [m1, m2, e]
      have r1 := Nat.mod_add_div y P
      have r2 := Nat.mod_add_div z P
      have s1 : y / P = 0 ∨ y / P = 1 := by
        have h2 : y / P < 2 := Nat.div_lt_of_lt_mul (by omega)
        generalize y / P = q at h2 ⊢
        omega
      have s2 : z / P = 0 ∨ z / P = 1 := by
        have h2 : z / P < 2 := Nat.div_lt_of_lt_mul (by omega)
        generalize z / P = q at h2 ⊢
        omega
      have t1 := Nat.mod_lt y hpos
      rcases s1 with s1 | s1 <;> rcases s2 with s2 | s2 <;> rw [s1] at r1 <;> rw [s2] at r2 <;> simp only [Nat.mul_zero, Nat.mul_one, Nat.add_zero] at r1 r2
      · exact absurd (by omega) hs
      · rw [Nat.mod_eq_of_lt (by omega)]; omega
      · rw [show y + P = z + (P + P) by omega, Nat.add_mod_right, Nat.mod_eq_of_lt (by omega)]
      · exact absurd (by omega) hs
/-! ### 2^33 states on: the bits above turn evenly -/
theorem high_turn (v g : Nat) (hg : g % 8589934592 = 717934) (hv : g / 8589934592 % 16777216 = v) : itn (2 ^ 33) g / 8589934592 % 16777216 = (v + 32765) % 16777216 ∧ itn (2 ^ 33) g % 8589934592 = 717934 := by
  have e : itn (2 ^ 33) g % 144115188075855872 = (g * (ac 33).1 + (ac 33).2) % 144115188075855872 := mod_of_mod (k := 128) (by decide) (itn_pow 33 (by omega) g)
  have hA : (ac 33).1 % 144115188075855872 = 34359738368 * ((ac 33).1 % 144115188075855872 / 34359738368) + 1 := by decide +kernel
  have hC : (717934 * (34359738368 * ((ac 33).1 % 144115188075855872 / 34359738368)) + (ac 33).2) % 144115188075855872 = 32765 * 8589934592 := by decide +kernel
  have hg2 : g = 717934 + 8589934592 * (g / 8589934592) := by omega
  generalize g / 8589934592 = q at *
  generalize hU : (ac 33).1 % 144115188075855872 / 34359738368 = U at hA hC
  generalize hCC : (ac 33).2 = C at *
  have e2 : (g * (ac 33).1 + C) % 144115188075855872 = (g + 32765 * 8589934592) % 144115188075855872 := by
    have hA2 : (ac 33).1 % 144115188075855872 = (34359738368 * U + 1) % 144115188075855872 := by rw [← hA, Nat.mod_mod]
    rw [Nat.add_mod, Nat.mul_mod, hA2, ← Nat.mul_mod, ← Nat.add_mod, hg2]
    have e3 : (717934 + 8589934592 * q) * (34359738368 * U + 1) + C = 717934 + 8589934592 * q + (717934 * (34359738368 * U) + C) + 144115188075855872 * (q * U * 2048) := by
      rw [Nat.mul_add, Nat.mul_one, Nat.add_mul]
      have : 8589934592 * q * (34359738368 * U) = 144115188075855872 * (q * U * 2048) := by
        rw [Nat.mul_assoc 8589934592, Nat.mul_left_comm q, ← Nat.mul_assoc 8589934592, Nat.mul_comm (q * U) 2048, ← Nat.mul_assoc 144115188075855872]
      omega
    rw [e3, Nat.add_mul_mod_self_left, Nat.add_mod, hC]
    conv => rhs; rw [Nat.add_mod]
  rw [e2] at e
  generalize itn (2 ^ 33) g = y at *
  omega
theorem high_turns (j : Nat) : ∀ (v g : Nat), g % 8589934592 = 717934 → g / 8589934592 % 16777216 = v → itn (j * 2 ^ 33) g / 8589934592 % 16777216 = (v + j * 32765) % 16777216 ∧ itn (j * 2 ^ 33) g % 8589934592 = 717934 := by
  induction j with
  | zero => intro v g h1 h2; rw [Nat.zero_mul, itn_zero]; exact ⟨by omega, h1⟩
  | succ i ih =>
    intro v g h1 h2
    obtain ⟨a1, a2⟩ := high_turn v g h1 h2
    obtain ⟨b1, b2⟩ := ih _ _ a2 a1
    rw [show (i + 1) * 2 ^ 33 = 2 ^ 33 + i * 2 ^ 33 by omega, itn_add]
    exact ⟨by rw [b1]; omega, b2⟩
/-! ### near a state with small bits the five numbers come soon -/
/-- The number behind this state is not 0 mod 3. -/
def nz (h : Nat) : Bool := (ou (nx h) % 3) != 0
/-- None of the five numbers behind this state is 0 mod 3. -/
def quiet (h : Nat) : Bool := nz h && nz (nx h) && nz (nx (nx h)) && nz (nx (nx (nx h))) && nz (nx (nx (nx (nx h))))
def soon : Nat → Nat → Bool
  | 0, h => quiet h
  | f + 1, h => quiet h || soon f (nx h)
def soonAll : Nat → Nat → Bool
  | 0, _ => true
  | n + 1, v => soon 220 (v * 8589934592 + 717934) && soonAll n (v + 1)
theorem soonAll_at {n v : Nat} (h : soonAll n v = true) : ∀ x, v ≤ x → x < v + n → soon 220 (x * 8589934592 + 717934) = true := by
  induction n generalizing v with
  | zero => intro x h1 h2; omega
  | succ m ih =>
    intro x h1 h2
    unfold soonAll at h
    simp only [Bool.and_eq_true] at h
    rcases Nat.lt_or_eq_of_le h1 with h3 | h3
    · exact ih h.2 x (by omega) (by omega)
    · rw [← h3]; exact h.1
theorem ou_same {h g : Nat} (e : h % 144115188075855872 = g % 144115188075855872) : ou h = ou g := by rw [ou_eq, ou_eq]; omega
theorem nz_same {h g : Nat} (e : h % 144115188075855872 = g % 144115188075855872) : nz h = nz g := by
  unfold nz; rw [ou_same (nx_same (k := 128) (by decide) e)]
theorem quiet_same {h g : Nat} (e : h % 144115188075855872 = g % 144115188075855872) : quiet h = quiet g := by
  have e1 := nx_same (k := 128) (by decide) e
  have e2 := nx_same (k := 128) (by decide) e1
  have e3 := nx_same (k := 128) (by decide) e2
  have e4 := nx_same (k := 128) (by decide) e3
  unfold quiet
  rw [nz_same e, nz_same e1, nz_same e2, nz_same e3, nz_same e4]
theorem soon_is (f : Nat) : ∀ h, soon f h = true → ∃ N, N ≤ f ∧ quiet (itn N h) = true := by
  induction f with
  | zero => intro h e; exact ⟨0, Nat.le_refl _, by rw [itn_zero]; exact e⟩
  | succ k ih =>
    intro h e
    have e' : (quiet h || soon k (nx h)) = true := e
    cases hq : quiet h
    · rw [hq] at e'
      obtain ⟨N, hN, h2⟩ := ih (nx h) e'
      exact ⟨N + 1, by omega, by rw [itn_succ]; exact h2⟩
    · exact ⟨0, Nat.zero_le _, by rw [itn_zero]; exact hq⟩
end Go.Proofs.YtdfhkkngbpidaaaDoor.Pl
