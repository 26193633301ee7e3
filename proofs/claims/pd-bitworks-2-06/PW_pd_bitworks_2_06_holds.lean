import PyProof.Rows.All
import Wide.All
import OpenK.AllK
import Wide.FinOn
import PySem.Challenge.RW_pd_bitworks_2_06
open PySem PySem.W PyProof.Rows PySem.Calls
set_option Elab.async false
namespace Mine
/-- the number spelled by w bits -/
def spell (f : Nat → Bool) : Nat → Nat
  | 0 => 0
  | w + 1 => spell f w + (f w).toNat * 2 ^ w
theorem spell_lt (f : Nat → Bool) : ∀ w, spell f w < 2 ^ w
  | 0 => by simp [spell]
  | w + 1 => by
    have h := spell_lt f w
    have hb : (f w).toNat ≤ 1 := by cases f w <;> decide
    have : (f w).toNat * 2 ^ w ≤ 1 * 2 ^ w := Nat.mul_le_mul_right _ hb
    rw [spell, Nat.pow_succ]; omega
theorem spell_testBit (f : Nat → Bool) : ∀ w i, (spell f w).testBit i = (decide (i < w) && f i)
  | 0, i => by simp [spell]
  | w + 1, i => by
    have h := spell_testBit f w i
    have hl := spell_lt f w
    rw [spell, Nat.add_comm, Nat.mul_comm, Nat.testBit_two_pow_mul_add _ hl]
    by_cases hi : i < w
    · rw [if_pos hi, h]
      have : i < w + 1 := by omega
      simp [hi, this]
    · rw [if_neg hi]
      by_cases e : i = w
      · subst e
        cases f i <;> simp
      · have h1 : ¬ i < w + 1 := by omega
        have h2 : i - w ≠ 0 := by omega
        have : (f w).toNat.testBit (i - w) = false := by
          refine Nat.testBit_lt_two_pow ?_
          have : 2 ^ 1 ≤ 2 ^ (i - w) := Nat.pow_le_pow_right (by decide) (by omega)
          cases f w <;> simp <;> omega
        simp [h1, this]
theorem eq_spell {n w : Nat} {f : Nat → Bool} (h : n < 2 ^ w) (hf : ∀ i, i < w → n.testBit i = f i) : n = spell f w := by
  refine Nat.eq_of_testBit_eq fun i => ?_
  rw [spell_testBit]
  by_cases hi : i < w
  · simp [hi, hf i hi]
  · have : n.testBit i = false := Nat.testBit_lt_two_pow (Nat.lt_of_lt_of_le h (Nat.pow_le_pow_right (by decide) (by omega)))
    simp [hi, this]
theorem spell_congr {f g : Nat → Bool} : ∀ {w : Nat}, (∀ i, i < w → f i = g i) → spell f w = spell g w
  | 0, _ => rfl
  | w + 1, h => by rw [spell, spell, spell_congr fun i hi => h i (by omega), h w (by omega)]

/-- a bit as an int -/
def ib (b : Bool) : Int := (b.toNat : Int)
theorem ib_range (b : Bool) : 0 ≤ ib b ∧ ib b ≤ 1 := by cases b <;> decide
theorem bit_of (N i : Nat) : Int.fmod (Int.fdiv (N : Int) (2 ^ i)) 2 = ib (N.testBit i) := by
  have h2 : ((2 : Int) ^ i) = ((2 ^ i : Nat) : Int) := by simp
  rw [h2, Int.fdiv_eq_ediv_of_nonneg _ (Int.natCast_nonneg _), Int.fmod_eq_emod_of_nonneg _ (by decide), ib, Nat.testBit_eq_decide_div_mod_eq]
  have : ((N : Int) / ((2 ^ i : Nat) : Int)) % 2 = ((N / 2 ^ i % 2 : Nat) : Int) := by simp
  rw [this]
  have : N / 2 ^ i % 2 < 2 := Nat.mod_lt _ (by decide)
  by_cases h : N / 2 ^ i % 2 = 1
  · simp [h]
  · have : N / 2 ^ i % 2 = 0 := by omega
    simp [this]
theorem sum_spell (f : Nat → Bool) : ∀ w, ((List.range w).map fun i => ib (f i) * (2 : Int) ^ i).sum = (spell f w : Int)
  | 0 => rfl
  | w + 1 => by
    rw [List.range_succ, List.map_append, List.sum_append, sum_spell f w, spell]
    simp [ib]

theorem and_nat (a b : Nat) : Builtin.bitAnd (a : Int) (b : Int) = ((a &&& b : Nat) : Int) := by
  rw [bitAnd_pp (by omega) (by omega)]; simp
theorem or_nat (a b : Nat) : Builtin.bitOr (a : Int) (b : Int) = ((a ||| b : Nat) : Int) := by
  have h := nat_or_add_and a b
  rw [bitOr_and, and_nat]; omega
theorem xor_add (a : Nat) : ∀ b : Nat, (a ^^^ b) + 2 * (a &&& b) = a + b := by
  induction a using Nat.strongRecOn with
  | ind m ih =>
    intro n
    by_cases h0 : m = 0
    · subst h0; simp
    · have ih' := ih (m / 2) (by omega) (n / 2)
      rw [← Nat.xor_div_two, ← Nat.and_div_two] at ih'
      have o1 := @Nat.xor_mod_two_eq_one m n
      have a1 := @Nat.and_mod_two_eq_one m n
      omega
theorem xor_nat (a b : Nat) : Builtin.bitXor (a : Int) (b : Int) = ((a ^^^ b : Nat) : Int) := by
  have h := xor_add a b
  have h2 := nat_or_add_and a b
  unfold Builtin.bitXor
  rw [bitOr_and, and_nat]; omega
theorem shl_nat (a k : Nat) : (a : Int) * 2 ^ k = ((a <<< k : Nat) : Int) := by
  rw [Nat.shiftLeft_eq]; simp
theorem shr_nat (a k : Nat) : Int.fdiv (a : Int) (2 ^ k) = ((a >>> k : Nat) : Int) := by
  have h2 : ((2 : Int) ^ k) = ((2 ^ k : Nat) : Int) := by simp
  rw [h2, Int.fdiv_eq_ediv_of_nonneg _ (Int.natCast_nonneg _), Nat.shiftRight_eq_div_pow]
  simp
/-- the bit of N at a place taken round the width W -/
def B (N W : Nat) (z : Int) : Bool := N.testBit (z % (W : Int)).toNat
theorem emod_range {W : Nat} (hW : 0 < W) (z : Int) : 0 ≤ z % (W : Int) ∧ z % (W : Int) < W :=
  ⟨Int.emod_nonneg _ (by omega), Int.emod_lt_of_pos _ (by omega)⟩
theorem B_congr {N W : Nat} {y z : Int} (h : y % (W : Int) = z % (W : Int)) : B N W y = B N W z := by
  unfold B; rw [h]
theorem B_small {N W : Nat} {i : Nat} (h : i < W) : B N W i = N.testBit i := by
  unfold B
  have : ((i : Int) % (W : Int)).toNat = i := by
    rw [Int.emod_eq_of_lt (by omega) (by omega)]; rfl
  rw [this]
theorem B_emod {N W : Nat} {z : Int} : B N W (z % W) = B N W z := B_congr (Int.emod_emod _ _)
theorem B_spell {W : Nat} (hW : 0 < W) (g : Int → Bool) (hg : ∀ z, g (z % (W : Int)) = g z) (z : Int) : B (spell (fun i => g i) W) W z = g z := by
  have h := emod_range hW z
  unfold B
  rw [spell_testBit]
  have h1 : (z % (W : Int)).toNat < W := by omega
  have h2 : (((z % (W : Int)).toNat : Nat) : Int) = z % W := by omega
  rw [h2, hg]
  simp [h1]
theorem self_spell {N W : Nat} (h : N < 2 ^ W) : N = spell (fun i => B N W i) W :=
  eq_spell h fun i hi => (B_small hi).symm

def rotlN (N k W : Nat) : Nat := ((N <<< k) ||| (N >>> (W - k))) &&& (2 ^ W - 1)
def rotrN (N k W : Nat) : Nat := ((N >>> k) ||| (N <<< (W - k))) &&& (2 ^ W - 1)
theorem mask_lt (x W : Nat) : x &&& (2 ^ W - 1) < 2 ^ W := by
  rw [Nat.and_two_pow_sub_one_eq_mod]
  exact Nat.mod_lt _ (Nat.two_pow_pos W)
theorem high_bit {N W i : Nat} (h : N < 2 ^ W) (hi : W ≤ i) : N.testBit i = false :=
  Nat.testBit_lt_two_pow (Nat.lt_of_lt_of_le h (Nat.pow_le_pow_right (by decide) hi))
theorem rotlN_spell {N k W : Nat} (h : N < 2 ^ W) (hk : k < W) : rotlN N k W = spell (fun i => B N W ((i : Int) - k)) W := by
  refine eq_spell (mask_lt _ _) fun i hi => ?_
  unfold rotlN B
  rw [Nat.testBit_and, Nat.testBit_or, Nat.testBit_shiftLeft, Nat.testBit_shiftRight, Nat.testBit_two_pow_sub_one]
  by_cases hik : k ≤ i
  · have e : (((i : Int) - k) % (W : Int)).toNat = i - k := by
      rw [Int.emod_eq_of_lt (by omega) (by omega)]; omega
    rw [e, high_bit h (show W ≤ W - k + i by omega)]
    simp [hik, hi]
  · have e : (((i : Int) - k) % (W : Int)).toNat = W - k + i := by
      have : ((i : Int) - k) % (W : Int) = ((i : Int) - k + W) % (W : Int) := by simp
      rw [this, Int.emod_eq_of_lt (by omega) (by omega)]; omega
    rw [e]
    simp [hik, hi]
theorem rotrN_spell {N k W : Nat} (h : N < 2 ^ W) (hk : k < W) : rotrN N k W = spell (fun i => B N W ((i : Int) + k)) W := by
  refine eq_spell (mask_lt _ _) fun i hi => ?_
  unfold rotrN B
  rw [Nat.testBit_and, Nat.testBit_or, Nat.testBit_shiftLeft, Nat.testBit_shiftRight, Nat.testBit_two_pow_sub_one]
  by_cases hik : i + k < W
  · have e : (((i : Int) + k) % (W : Int)).toNat = k + i := by
      rw [Int.emod_eq_of_lt (by omega) (by omega)]; omega
    have h2 : ¬ (W - k ≤ i) := by omega
    rw [e]
    simp [h2, hi]
  · have e : (((i : Int) + k) % (W : Int)).toNat = i - (W - k) := by
      have : ((i : Int) + k) % (W : Int) = ((i : Int) + k - W) % (W : Int) := by simp
      rw [this, Int.emod_eq_of_lt (by omega) (by omega)]; omega
    have h2 : W - k ≤ i := by omega
    rw [e, high_bit h (show W ≤ k + i by omega)]
    simp [h2, hi]

def rotl (n k w : Int) : Int := Builtin.bitAnd (Builtin.bitOr (n * 2 ^ (k.fmod w).toNat) (n.fdiv (2 ^ (w - k.fmod w).toNat))) (1 * 2 ^ w.toNat - 1)
def rotr (n k w : Int) : Int := Builtin.bitAnd (Builtin.bitOr (n.fdiv (2 ^ (k.fmod w).toNat)) (n * 2 ^ (w - k.fmod w).toNat)) (1 * 2 ^ w.toNat - 1)
theorem mask_nat (W : Nat) : (1 : Int) * 2 ^ W - 1 = ((2 ^ W - 1 : Nat) : Int) := by
  have := Nat.two_pow_pos W
  rw [Int.one_mul, Int.ofNat_sub (by omega)]; simp
theorem fmod_nat {W : Nat} (k : Int) (hW : 0 < W) : ∃ K : Nat, k.fmod (W : Int) = (K : Int) ∧ K < W ∧ k % (W : Int) = K := by
  have h := emod_range hW k
  refine ⟨(k % (W : Int)).toNat, ?_, by omega, by omega⟩
  rw [Int.fmod_eq_emod_of_nonneg _ (by omega)]; omega
theorem rotl_spell {N W : Nat} (k : Int) (hW : 0 < W) (h : N < 2 ^ W) : rotl N k W = (spell (fun i => B N W ((i : Int) - k)) W : Nat) := by
  obtain ⟨K, e, hK, e2⟩ := fmod_nat k hW
  unfold rotl
  have e3 : ((W : Int) - K).toNat = W - K := by omega
  rw [e, Int.toNat_natCast, Int.toNat_natCast, e3, shl_nat, shr_nat, or_nat, mask_nat, and_nat]
  have := rotlN_spell h hK
  unfold rotlN at this
  rw [this]
  refine congrArg _ (spell_congr fun i _ => B_congr ?_)
  rw [Int.sub_emod, Int.sub_emod (i : Int) k, e2]
  congr 2
  exact Int.emod_eq_of_lt (by omega) (by omega)
theorem rotr_spell {N W : Nat} (k : Int) (hW : 0 < W) (h : N < 2 ^ W) : rotr N k W = (spell (fun i => B N W ((i : Int) + k)) W : Nat) := by
  obtain ⟨K, e, hK, e2⟩ := fmod_nat k hW
  unfold rotr
  have e3 : ((W : Int) - K).toNat = W - K := by omega
  rw [e, Int.toNat_natCast, Int.toNat_natCast, e3, shl_nat, shr_nat, or_nat, mask_nat, and_nat]
  have := rotrN_spell h hK
  unfold rotrN at this
  rw [this]
  refine congrArg _ (spell_congr fun i _ => B_congr ?_)
  rw [Int.add_emod, Int.add_emod (i : Int) k, e2]
  congr 2
  exact Int.emod_eq_of_lt (by omega) (by omega)

/-- reversed_bits: the loop's state after t turns (result, rest) -/
def revStep (p : Int × Int) : Int × Int := (Builtin.bitOr (p.1 * 2 ^ (1 : Int).toNat) (Builtin.bitAnd p.2 1), p.2.fdiv (2 ^ (1 : Int).toNat))
def revN (N : Nat) : Nat → Nat
  | 0 => 0
  | t + 1 => 2 * revN N t + (N.testBit t).toNat
theorem revN_lt (N : Nat) : ∀ t, revN N t < 2 ^ t
  | 0 => by simp [revN]
  | t + 1 => by
    have h := revN_lt N t
    have hb : (N.testBit t).toNat ≤ 1 := by cases N.testBit t <;> decide
    rw [revN, Nat.pow_succ]; omega
theorem revN_testBit (N : Nat) : ∀ t i, i < t → (revN N t).testBit i = N.testBit (t - 1 - i)
  | 0, i, h => by omega
  | t + 1, i, h => by
    have hb : (N.testBit t).toNat < 2 ^ 1 := by cases N.testBit t <;> decide
    rw [revN]
    have := Nat.testBit_two_pow_mul_add (i := 1) (revN N t) hb i
    rw [Nat.pow_one] at this
    rw [this]
    by_cases hi : i = 0
    · subst hi
      cases hN : N.testBit t <;> simp [hN]
    · have h1 : ¬ i < 1 := by omega
      rw [if_neg h1, revN_testBit N t (i - 1) (by omega)]
      congr 1; omega
theorem revN_spell (N W : Nat) (hW : 0 < W) : revN N W = spell (fun i => B N W (-1 - (i : Int))) W := by
  refine eq_spell (revN_lt _ _) fun i hi => ?_
  rw [revN_testBit N W i hi]
  unfold B
  have : (-1 - (i : Int)) % (W : Int) = (-1 - (i : Int) + W) % (W : Int) := by simp
  rw [this, Int.emod_eq_of_lt (by omega) (by omega)]
  congr 1; omega
theorem rev_step (N t : Nat) : revStep ((revN N t : Int), ((N >>> t : Nat) : Int)) = ((revN N (t + 1) : Int), ((N >>> (t + 1) : Nat) : Int)) := by
  unfold revStep
  have e1 : (1 : Int).toNat = 1 := rfl
  have e2 : (1 : Int) = ((1 : Nat) : Int) := rfl
  refine Prod.ext ?_ ?_
  · show Builtin.bitOr ((revN N t : Int) * 2 ^ (1 : Int).toNat) (Builtin.bitAnd ((N >>> t : Nat) : Int) 1) = _
    rw [e1, shl_nat, e2, and_nat, or_nat]
    congr 1
    rw [revN, Nat.and_one_is_mod, Nat.shiftLeft_eq, Nat.pow_one, Nat.mul_comm]
    have hb : (N >>> t) % 2 < 2 ^ 1 := Nat.mod_lt _ (by decide)
    have := (Nat.two_pow_add_eq_or_of_lt hb (revN N t)).symm
    rw [Nat.pow_one] at this
    rw [this]
    congr 1
    rw [Nat.testBit_eq_decide_div_mod_eq, Nat.shiftRight_eq_div_pow]
    have : N / 2 ^ t % 2 < 2 := Nat.mod_lt _ (by decide)
    by_cases h : N / 2 ^ t % 2 = 1
    · simp [h]
    · have : N / 2 ^ t % 2 = 0 := by omega
      simp [this]
  · show (((N >>> t : Nat) : Int)).fdiv (2 ^ (1 : Int).toNat) = _
    rw [e1, shr_nat]
    congr 1
def rev (n w : Int) : Int := (Nat.repeat revStep w.toNat (0, n)).1
theorem rev_rep (N : Nat) : ∀ t, Nat.repeat revStep t ((0 : Int), (N : Int)) = ((revN N t : Int), ((N >>> t : Nat) : Int))
  | 0 => by simp [Nat.repeat, revN]
  | t + 1 => by rw [Nat.repeat, rev_rep N t, rev_step]
theorem rev_nat (N W : Nat) : rev N W = (revN N W : Int) := by
  unfold rev; rw [Int.toNat_natCast, rev_rep]
theorem rev_spell (N W : Nat) (hW : 0 < W) : rev N W = (spell (fun i => B N W (-1 - (i : Int))) W : Nat) := by rw [rev_nat, revN_spell N W hW]

theorem B_sub {W : Nat} (N : Nat) (c : Int) (z : Int) : B N W (z % (W : Int) - c) = B N W (z - c) := B_congr (by rw [Int.sub_emod, Int.emod_emod, ← Int.sub_emod])
theorem B_add {W : Nat} (N : Nat) (c : Int) (z : Int) : B N W (z % (W : Int) + c) = B N W (z + c) := B_congr (by rw [Int.add_emod, Int.emod_emod, ← Int.add_emod])
theorem B_neg {W : Nat} (N : Nat) (c : Int) (z : Int) : B N W (c - z % (W : Int)) = B N W (c - z) := B_congr (by rw [Int.sub_emod, Int.emod_emod, ← Int.sub_emod])

theorem two_rotl {N W : Nat} (j k : Int) (hW : 0 < W) (h : N < 2 ^ W) : rotl (rotl N j W) k W = (spell (fun i => B N W ((i : Int) - j - k)) W : Nat) := by
  rw [rotl_spell j hW h, rotl_spell k hW (spell_lt _ _)]
  congr 1
  refine spell_congr fun i _ => ?_
  rw [B_spell hW (fun z => B N W (z - j)) (fun z => B_sub N j z)]
  exact B_congr (congrArg (· % (W : Int)) (by omega))
theorem sum_rotl {N W : Nat} (j k : Int) (hW : 0 < W) (h : N < 2 ^ W) : rotl N (j + k) W = (spell (fun i => B N W ((i : Int) - j - k)) W : Nat) := by
  rw [rotl_spell _ hW h]
  congr 1
  exact spell_congr fun i _ => B_congr (congrArg (· % (W : Int)) (by omega))
theorem mirror_rot {N W : Nat} (k : Int) (hW : 0 < W) (h : N < 2 ^ W) : rev (rotl (rev N W) k W) W = rotr N k W := by
  rw [rev_spell N W hW, rotl_spell k hW (spell_lt _ _), rev_spell _ W hW, rotr_spell k hW h]
  congr 1
  refine spell_congr fun i _ => ?_
  rw [B_spell hW (fun z => B (spell (fun i => B N W (-1 - (i : Int))) W) W (z - k)) (fun z => B_sub _ k z)]
  rw [B_spell hW (fun z => B N W (-1 - z)) (fun z => B_neg N (-1) z)]
  exact B_congr (congrArg (· % (W : Int)) (by omega))
theorem rot_back {N W : Nat} (k : Int) (hW : 0 < W) (h : N < 2 ^ W) : rotr (rotl N k W) k W = N := by
  rw [rotl_spell k hW h, rotr_spell k hW (spell_lt _ _)]
  congr 1
  conv => rhs; rw [self_spell h]
  refine spell_congr fun i _ => ?_
  rw [B_spell hW (fun z => B N W (z - k)) (fun z => B_sub N k z)]
  exact B_congr (congrArg (· % (W : Int)) (by omega))
theorem rev_rev {N W : Nat} (hW : 0 < W) (h : N < 2 ^ W) : rev (rev N W) W = N := by
  rw [rev_spell N W hW, rev_spell _ W hW]
  congr 1
  conv => rhs; rw [self_spell h]
  refine spell_congr fun i _ => ?_
  rw [B_spell hW (fun z => B N W (-1 - z)) (fun z => B_neg N (-1) z)]
  exact B_congr (congrArg (· % (W : Int)) (by omega))

/-- the list of bits, as the law builds it -/
def bitsOf (n w : Int) : List Int := (List.range w.toNat).map fun (i : Nat) => (n.fdiv (2 ^ i)).fmod 2
theorem bitsOf_get {N W i : Nat} (h : i < W) : (bitsOf N W).getD i 0 = ib (N.testBit i) := by
  unfold bitsOf
  rw [List.getD_eq_getElem?_getD, List.getElem?_map, List.getElem?_range (by simpa using h)]
  exact bit_of N i
theorem bitsOf_len (n : Int) (W : Nat) : (bitsOf n W).length = W := by simp [bitsOf]
/-- a list of W places spelled -/
theorem spelled_of {N W : Nat} (hW : 0 < W) (g : Int → Int) : ((List.range W).map fun (i : Nat) => (bitsOf N W).getD ((g i).fmod W).toNat 0 * (2 : Int) ^ i).sum = (spell (fun i => B N W (g i)) W : Nat) := by
  rw [← sum_spell]
  congr 1
  refine List.map_congr_left fun i _ => ?_
  have h := emod_range hW (g i)
  rw [Int.fmod_eq_emod_of_nonneg _ (by omega), bitsOf_get (by omega)]
  rfl
theorem spelled_rev {N W : Nat} (hW : 0 < W) : ((List.range W).map fun (i : Nat) => (bitsOf N W).getD ((W : Int) - 1 - i).toNat 0 * (2 : Int) ^ i).sum = (spell (fun i => B N W (-1 - (i : Int))) W : Nat) := by
  rw [← sum_spell]
  congr 1
  refine List.map_congr_left fun i hi => ?_
  have hi := List.mem_range.mp hi
  rw [bitsOf_get (by omega)]
  unfold B
  have : (-1 - (i : Int)) % (W : Int) = (-1 - (i : Int) + W) % (W : Int) := by simp
  rw [this, Int.emod_eq_of_lt (by omega) (by omega)]
  congr 3; omega
def cell5 (ns : List Int) (i : Int) : Int := if i < ns.length then ns.getD i.toNat 0 else i * 5 + 3
def word2 (kind a b w : Int) : Int :=
  if kind = 0 then 1 else if kind = 1 then 2 ^ (w - 1).toNat else if kind = 2 then ((2 : Int) ^ (a.fmod w).toNat + 2 ^ (b.fmod w).toNat).fmod (2 ^ w.toNat)
  else if kind = 3 then 2 ^ w.toNat - 1 - 2 ^ (a.fmod w).toNat else if kind = 4 then a.fmod (2 ^ w.toNat)
  else (a.fmod (2 ^ (64 : Int).toNat) * 11400714819323198485 + b).fmod (2 ^ w.toNat)
def dist2 (kind a w : Int) : Int :=
  if kind = 0 then 0 else if kind = 1 then w else if kind = 2 then w * a.fmod ((100 : Int).fdiv w + 1) else if kind = 3 then w + a.fmod (101 - w) else if kind = 4 then a.fmod w else a.fmod 101
theorem fmod_range (y : Int) {m : Int} (hm : 0 < m) : 0 ≤ y.fmod m ∧ y.fmod m < m := by
  rw [Int.fmod_eq_emod_of_nonneg _ (by omega)]
  exact ⟨Int.emod_nonneg _ (by omega), Int.emod_lt_of_pos _ hm⟩
theorem pw_pos (k : Nat) : (0 : Int) < 2 ^ k := Int.pow_pos (by decide)
theorem pw_lt {a b : Nat} (h : a < b) : (2 : Int) ^ a < 2 ^ b := by
  have := Nat.pow_lt_pow_right (a := 2) (by decide) h
  exact_mod_cast this
theorem pw_le {a b : Nat} (h : a ≤ b) : (2 : Int) ^ a ≤ 2 ^ b := by
  have := Nat.pow_le_pow_right (n := 2) (by decide) h
  exact_mod_cast this
theorem word2_range (kind a b : Int) {w : Int} (h1 : 1 ≤ w) : 0 ≤ word2 kind a b w ∧ word2 kind a b w < 2 ^ w.toNat := by
  have hp := pw_pos w.toNat
  unfold word2
  split
  · exact ⟨by decide, by have := pw_le (show 1 ≤ w.toNat by omega); omega⟩
  split
  · exact ⟨Int.le_of_lt (pw_pos _), pw_lt (by omega)⟩
  split
  · exact fmod_range _ hp
  split
  · have h := fmod_range a (show 0 < w by omega)
    have := pw_lt (show (a.fmod w).toNat < w.toNat by omega)
    have := pw_pos (a.fmod w).toNat
    omega
  split
  · exact fmod_range _ hp
  · exact fmod_range _ hp
theorem gen_n {kind a b w : Int} {R : Int → Prop} (h1 : 1 ≤ w) (h : ∀ N : Int, 0 ≤ N → N < 2 ^ w.toNat → R N) : R (word2 kind a b w) :=
  h _ (word2_range kind a b h1).1 (word2_range kind a b h1).2
theorem gen_d {kind a w : Int} {R : Int → Prop} (h : ∀ D : Int, R D) : R (dist2 kind a w) := h _
theorem gen_w {i : Int} {R : Int → Prop} (h0 : 0 ≤ i) (h8 : i < 8) (h : ∀ W : Int, 1 ≤ W → W ≤ 64 → R W) : R (([1, 2, 3, 5, 8, 13, 32, 64] : List Int).getD i.toNat 0) := by
  have hi : i.toNat < 8 := by omega
  have key : ∀ n : Nat, n < 8 → 1 ≤ ([1, 2, 3, 5, 8, 13, 32, 64] : List Int).getD n 0 ∧ ([1, 2, 3, 5, 8, 13, 32, 64] : List Int).getD n 0 ≤ 64 := by decide
  exact h _ (key _ hi).1 (key _ hi).2
theorem fdiv_one_pos {w : Int} (h : 1 ≤ w) : (100 : Int).fdiv w + 1 ≠ 0 := by
  rw [Int.fdiv_eq_ediv_of_nonneg _ (by omega)]
  have := Int.ediv_nonneg (show (0 : Int) ≤ 100 by decide) (show 0 ≤ w by omega)
  omega
/-- reversed_bits -/
def revI (n w : Int) : Int := (revN n.toNat w.toNat : Int)
theorem revI_range (n w : Int) : 0 ≤ revI n w ∧ revI n w < 2 ^ w.toNat := by
  unfold revI
  have := revN_lt n.toNat w.toNat
  refine ⟨by omega, ?_⟩
  exact_mod_cast this
theorem rotl_range (n k : Int) {w : Int} (h1 : 1 ≤ w) (h0 : 0 ≤ n) (h : n < 2 ^ w.toNat) : 0 ≤ rotl n k w ∧ rotl n k w < 2 ^ w.toNat := by
  obtain ⟨N, rfl⟩ := Int.eq_ofNat_of_zero_le h0
  obtain ⟨W, rfl⟩ := Int.eq_ofNat_of_zero_le (show 0 ≤ w by omega)
  rw [rotl_spell k (by omega) (by exact_mod_cast h)]
  have := spell_lt (fun i => B N W ((i : Int) - k)) W
  refine ⟨by omega, ?_⟩
  exact_mod_cast this
theorem rotr_range (n k : Int) {w : Int} (h1 : 1 ≤ w) (h0 : 0 ≤ n) (h : n < 2 ^ w.toNat) : 0 ≤ rotr n k w ∧ rotr n k w < 2 ^ w.toNat := by
  obtain ⟨N, rfl⟩ := Int.eq_ofNat_of_zero_le h0
  obtain ⟨W, rfl⟩ := Int.eq_ofNat_of_zero_le (show 0 ≤ w by omega)
  rw [rotr_spell k (by omega) (by exact_mod_cast h)]
  have := spell_lt (fun i => B N W ((i : Int) + k)) W
  refine ⟨by omega, ?_⟩
  exact_mod_cast this
/-- the loop of reversed_bits: start and turn -/
theorem rev_start {n : Int} (h : 0 ≤ n) : (0 : Int) = (revN n.toNat ([] : List Int).length : Int) ∧ n = ((n.toNat >>> ([] : List Int).length : Nat) : Int) := by
  refine ⟨rfl, ?_⟩
  show n = ((n.toNat >>> 0 : Nat) : Int)
  rw [Nat.shiftRight_zero]; omega
theorem rev_turn {n0 r n i : Int} {pre : List Int} (h : r = (revN n0.toNat pre.length : Int) ∧ n = ((n0.toNat >>> pre.length : Nat) : Int)) :
    Builtin.bitOr (r * 2 ^ (1 : Int).toNat) (Builtin.bitAnd n 1) = (revN n0.toNat (pre ++ [i]).length : Int) ∧ n.fdiv (2 ^ (1 : Int).toNat) = ((n0.toNat >>> (pre ++ [i]).length : Nat) : Int) := by
  have e := rev_step n0.toNat pre.length
  rw [List.length_append, h.1, h.2]
  exact ⟨congrArg Prod.fst e, congrArg Prod.snd e⟩
theorem rev_small {n0 r n : Int} {pre : List Int} (h : r = (revN n0.toNat pre.length : Int) ∧ n = ((n0.toNat >>> pre.length : Nat) : Int)) (hp : pre.length ≤ 64) : r.natAbs < 2 ^ 64 := by
  have := revN_lt n0.toNat pre.length
  have h2 := Nat.pow_le_pow_right (n := 2) (by decide) hp
  rw [h.1]; omega
theorem small_of {n w : Int} (h0 : 0 ≤ n) (h : n < 2 ^ w.toNat) (hw : w ≤ 64) : n.natAbs < 2 ^ 64 := by
  have h2 := pw_le (show w.toNat ≤ 64 by omega)
  have : (n.natAbs : Int) < 2 ^ 64 := by omega
  exact_mod_cast this

/-! the ends -/
theorem nn {n w : Int} (h1 : 1 ≤ w) (h0 : 0 ≤ n) (h : n < 2 ^ w.toNat) : ∃ N W : Nat, n = N ∧ w = W ∧ 0 < W ∧ N < 2 ^ W := by
  obtain ⟨N, rfl⟩ := Int.eq_ofNat_of_zero_le h0
  obtain ⟨W, rfl⟩ := Int.eq_ofNat_of_zero_le (show 0 ≤ w by omega)
  exact ⟨N, W, rfl, rfl, by omega, by exact_mod_cast h⟩
theorem revI_nat (N W : Nat) : revI N W = (revN N W : Int) := rfl
theorem e_mirror {n k w : Int} (h1 : 1 ≤ w) (h0 : 0 ≤ n) (h : n < 2 ^ w.toNat) : revI (rotl (revI n w) k w) w = rotr n k w := by
  obtain ⟨N, W, rfl, rfl, hW, hN⟩ := nn h1 h0 h
  have e := mirror_rot k hW hN
  rw [rev_nat] at e
  have e2 : revI N W = (revN N W : Int) := rfl
  rw [e2, rotl_spell k hW (revN_lt _ _)]
  rw [rotl_spell k hW (revN_lt _ _), rev_nat] at e
  exact e
theorem e_back {n k w : Int} (h1 : 1 ≤ w) (h0 : 0 ≤ n) (h : n < 2 ^ w.toNat) : rotr (rotl n k w) k w = n := by
  obtain ⟨N, W, rfl, rfl, hW, hN⟩ := nn h1 h0 h
  exact rot_back k hW hN
theorem e_revrev {n w : Int} (h1 : 1 ≤ w) (h0 : 0 ≤ n) (h : n < 2 ^ w.toNat) : revI (revI n w) w = n := by
  obtain ⟨N, W, rfl, rfl, hW, hN⟩ := nn h1 h0 h
  have e := rev_rev hW hN
  rw [rev_nat, rev_nat] at e
  exact e
theorem e_two {n j k w : Int} (h1 : 1 ≤ w) (h0 : 0 ≤ n) (h : n < 2 ^ w.toNat) : rotl (rotl n j w) k w = rotl n (j + k) w := by
  obtain ⟨N, W, rfl, rfl, hW, hN⟩ := nn h1 h0 h
  rw [two_rotl j k hW hN, sum_rotl j k hW hN]
theorem sub_fmod (k : Int) {w : Int} (h : 1 ≤ w) : 0 ≤ w - k.fmod w ∧ w - k.fmod w ≤ w := by
  have := fmod_range k (show 0 < w by omega)
  omega
/-! the lists, as the walk writes them -/
def rk (a : Int) (n : Nat) : List Int := (List.range n).map fun (i : Nat) => a + (i : Int)
theorem rk_map (f : Int → Int) (n : Nat) : (rk 0 n).map f = (List.range n).map fun (i : Nat) => f i := by
  unfold rk
  rw [List.map_map]
  refine List.map_congr_left fun i _ => ?_
  show f (0 + (i : Int)) = f i
  rw [Int.zero_add]
theorem rk_get (f : Int → Int) {n i : Nat} (h : i < n) : ((rk 0 n).map f).getD i 0 = f i := by
  rw [rk_map, List.getD_eq_getElem?_getD, List.getElem?_map, List.getElem?_range h]; rfl
/-- the sum of a list of places, spelled -/
theorem spelled_rk (f : Int → Int) (n : Nat) : ((rk 0 n).map fun i => ((rk 0 n).map f).getD i.toNat 0 * (2 : Int) ^ i.toNat).sum = ((List.range n).map fun (i : Nat) => f i * (2 : Int) ^ i).sum := by
  rw [rk_map]
  congr 1
  refine List.map_congr_left fun i hi => ?_
  rw [Int.toNat_natCast, rk_get f (List.mem_range.mp hi)]
theorem bits_rk (n : Int) (W : Nat) : ((rk 0 W).map fun k => (n.fdiv (2 ^ k.toNat)).fmod 2) = bitsOf n W := by
  rw [rk_map]
  unfold bitsOf
  rw [Int.toNat_natCast]
  simp only [Int.toNat_natCast]
theorem and_range (x : Int) (m : Nat) : 0 ≤ Builtin.bitAnd x (m : Int) ∧ Builtin.bitAnd x (m : Int) ≤ m := by
  have hm : decide ((0 : Int) ≤ (m : Int)) = true := by simp
  unfold Builtin.bitAnd
  rw [hm]
  cases decide (0 ≤ x) with
  | true =>
    have := @Nat.and_le_right x.toNat ((m : Int)).toNat
    show 0 ≤ ((x.toNat &&& ((m : Int)).toNat : Nat) : Int) ∧ ((x.toNat &&& ((m : Int)).toNat : Nat) : Int) ≤ m
    rw [Int.toNat_natCast] at *
    omega
  | false =>
    have := @Nat.and_le_left ((m : Int)).toNat (Builtin.bitNot x).toNat
    show 0 ≤ (m : Int) - ((((m : Int)).toNat &&& (Builtin.bitNot x).toNat : Nat) : Int) ∧ (m : Int) - ((((m : Int)).toNat &&& (Builtin.bitNot x).toNat : Nat) : Int) ≤ m
    rw [Int.toNat_natCast] at *
    omega
theorem mask_range (x w : Int) : 0 ≤ Builtin.bitAnd x (1 * 2 ^ w.toNat - 1) ∧ Builtin.bitAnd x (1 * 2 ^ w.toNat - 1) < 2 ^ w.toNat := by
  have h := and_range x (2 ^ w.toNat - 1)
  rw [← mask_nat] at h
  omega
theorem rotl_range' (n k w : Int) : 0 ≤ rotl n k w ∧ rotl n k w < 2 ^ w.toNat := mask_range _ w
theorem rotr_range' (n k w : Int) : 0 ≤ rotr n k w ∧ rotr n k w < 2 ^ w.toNat := mask_range _ w
def RevInv (n0 : Int) (k : Nat) (r n : Int) : Prop := r = (revN n0.toNat k : Int) ∧ n = ((n0.toNat >>> k : Nat) : Int)
theorem ri_start {n : Int} (h : 0 ≤ n) : RevInv n ([] : List Int).length 0 n := rev_start h
theorem ri_turn {n0 r n i : Int} {pre : List Int} (h : RevInv n0 pre.length r n) : RevInv n0 (pre ++ [i]).length (Builtin.bitOr (r * 2 ^ (1 : Int).toNat) (Builtin.bitAnd n 1)) (n.fdiv (2 ^ (1 : Int).toNat)) := rev_turn h
theorem ri_small {n0 r n : Int} {pre : List Int} (h : RevInv n0 pre.length r n) (hp : pre.length ≤ 64) : r.natAbs < 2 ^ 64 := rev_small h hp
theorem ri_end {n0 w r n : Int} {k : Nat} (h : RevInv n0 k r n) (hk : k = w.toNat) : r = revI n0 w := by
  rw [h.1, hk]; rfl
/-- a list of digits, lowest first, as a number -/
def val : List Int → Int
  | [] => 0
  | a :: r => a + 2 * val r
theorem val_append (l : List Int) (x : Int) : val (l ++ [x]) = val l + x * 2 ^ l.length := by
  induction l with
  | nil => simp [val]
  | cons a r ih =>
    rw [List.cons_append, val, val, ih, List.length_cons, Int.pow_succ, Int.mul_add, ← Int.mul_assoc x, Int.mul_comm 2 (x * 2 ^ r.length)]
    omega
theorem val_spell (f : Nat → Bool) : ∀ w, val ((List.range w).map fun i => ib (f i)) = (spell f w : Int)
  | 0 => rfl
  | w + 1 => by
    rw [List.range_succ, List.map_append, List.map_singleton, val_append, val_spell f w, spell]
    simp [ib]
theorem list_of {l : List Int} {w : Nat} {g : Nat → Int} (hl : l.length = w) (h : ∀ i, i < w → l.getD i 0 = g i) : l = (List.range w).map g := by
  refine List.ext_getElem (by simp [hl]) fun i h1 h2 => ?_
  have hi : i < w := by omega
  have := h i hi
  rw [List.getD_eq_getElem?_getD, List.getElem?_eq_getElem h1] at this
  simpa using this

def tgN (N : Nat) : Nat := N ^^^ (N >>> 1)
theorem tgN_testBit (N i : Nat) : (tgN N).testBit i = (N.testBit i ^^ N.testBit (i + 1)) := by
  unfold tgN
  rw [Nat.testBit_xor, Nat.testBit_shiftRight, Nat.add_comm 1 i]
theorem tgN_lt {N W : Nat} (h : N < 2 ^ W) : tgN N < 2 ^ W := by
  unfold tgN
  refine Nat.xor_lt_two_pow h (Nat.lt_of_le_of_lt ?_ h)
  rw [Nat.shiftRight_eq_div_pow]; exact Nat.div_le_self _ _
theorem tgN_inj {M N : Nat} (h : tgN M = tgN N) : M = N := by
  -- the top bits agree (both 0); go down
  have key : ∀ d i, M < 2 ^ (i + d) → N < 2 ^ (i + d) → M.testBit i = N.testBit i := by
    intro d
    induction d with
    | zero => intro i hM hN; rw [high_bit (i := i) hM (Nat.le_refl _), high_bit (i := i) hN (Nat.le_refl _)]
    | succ d ih =>
      intro i hM hN
      have e := ih (i + 1) (by rw [Nat.add_right_comm]; exact hM) (by rw [Nat.add_right_comm]; exact hN)
      have e2 := congrArg (fun x => x.testBit i) h
      simp only [tgN_testBit, e] at e2
      cases h1 : M.testBit i <;> cases h2 : N.testBit i <;> cases h3 : N.testBit (i + 1) <;> simp_all
  refine Nat.eq_of_testBit_eq fun i => key (M + N) i ?_ ?_
  · exact Nat.lt_of_lt_of_le Nat.lt_two_pow_self (Nat.pow_le_pow_right (by decide) (by omega))
  · exact Nat.lt_of_lt_of_le Nat.lt_two_pow_self (Nat.pow_le_pow_right (by decide) (by omega))
def fgT (G : Nat) : Nat → Nat
  | 0 => 0
  | t + 1 => fgT G t ^^^ (G >>> t)
theorem shr_xor (a b k : Nat) : (a ^^^ b) >>> k = (a >>> k) ^^^ (b >>> k) := by
  refine Nat.eq_of_testBit_eq fun i => ?_
  simp [Nat.testBit_xor, Nat.testBit_shiftRight]
/-- the invariant of from_gray's loop -/
theorem fg_turn {n g G : Nat} (h : tgN n ^^^ g = G) : tgN (n ^^^ g) ^^^ (g >>> 1) = G := by
  rw [← h]
  unfold tgN
  rw [shr_xor]
  refine Nat.eq_of_testBit_eq fun i => ?_
  simp only [Nat.testBit_xor, Nat.testBit_shiftRight]
  cases n.testBit i <;> cases n.testBit (1 + i) <;> cases g.testBit i <;> cases g.testBit (1 + i) <;> rfl
theorem fgT_inv (G : Nat) : ∀ t, tgN (fgT G t) ^^^ (G >>> t) = G
  | 0 => by simp [fgT, tgN]
  | t + 1 => by
    have h := fg_turn (fgT_inv G t)
    rw [fgT, Nat.shiftRight_add]
    exact h
def fgN (G : Nat) : Nat := fgT G G
theorem fgN_tg (G : Nat) : tgN (fgN G) = G := by
  have h := fgT_inv G G
  have z : G >>> G = 0 := by
    rw [Nat.shiftRight_eq_div_pow]
    exact Nat.div_eq_of_lt Nat.lt_two_pow_self
  rw [z, Nat.xor_zero] at h
  exact h
theorem fgN_of {n G : Nat} (h : tgN n = G) : n = fgN G := tgN_inj (h.trans (fgN_tg G).symm)
theorem fgN_tgN (N : Nat) : fgN (tgN N) = N := (fgN_of rfl).symm
theorem fgN_lt {G W : Nat} (h : G < 2 ^ W) : fgN G < 2 ^ W := by
  -- the spelled running xors are below 2 ^ W and have the same code
  have key : ∀ t, fgT G t < 2 ^ W := by
    intro t
    induction t with
    | zero => exact Nat.two_pow_pos W
    | succ t ih =>
      refine Nat.xor_lt_two_pow ih (Nat.lt_of_le_of_lt ?_ h)
      rw [Nat.shiftRight_eq_div_pow]; exact Nat.div_le_self _ _
  exact key G

/-- the xor of the bits i .. i + d - 1 -/
def xr (N : Nat) (i : Nat) : Nat → Bool
  | 0 => false
  | d + 1 => xr N i d ^^ N.testBit (i + d)
theorem xr_head (N i : Nat) : ∀ d, xr N i (d + 1) = (N.testBit i ^^ xr N (i + 1) d)
  | 0 => by simp [xr]
  | d + 1 => by
    rw [xr, xr_head N i d, xr, Bool.xor_assoc, Nat.add_right_comm, Nat.add_assoc]
theorem xr_high {N W : Nat} (h : N < 2 ^ W) {i : Nat} (hi : W ≤ i) : ∀ d, xr N i d = false
  | 0 => rfl
  | d + 1 => by rw [xr, xr_high h hi d, high_bit h (by omega)]; rfl
theorem xr_add (N i : Nat) (a : Nat) : ∀ b, xr N i (a + b) = (xr N i a ^^ xr N (i + a) b)
  | 0 => by simp [xr]
  | b + 1 => by rw [← Nat.add_assoc, xr, xr_add N i a b, xr, Bool.xor_assoc, Nat.add_assoc i a b]
theorem xr_shift (N t i : Nat) : ∀ d, xr (N >>> t) i d = xr N (i + t) d
  | 0 => rfl
  | d + 1 => by
    rw [xr, xr_shift N t i d, xr, Nat.testBit_shiftRight]
    congr 2; omega
theorem xr_xor (M N i : Nat) : ∀ d, xr (M ^^^ N) i d = (xr M i d ^^ xr N i d)
  | 0 => rfl
  | d + 1 => by
    rw [xr, xr_xor M N i d, xr, xr, Nat.testBit_xor]
    cases xr M i d <;> cases xr N i d <;> cases M.testBit (i + d) <;> cases N.testBit (i + d) <;> rfl
theorem xr_double (N t : Nat) : xr (N ^^^ (N >>> t)) 0 t = xr N 0 (t + t) := by
  rw [xr_xor, xr_shift, xr_add]
/-- the running sums from the top spell from_gray -/
theorem run_spell {N W : Nat} (h : N < 2 ^ W) : spell (fun i => xr N i (W - i)) W = fgN N := by
  refine fgN_of (Nat.eq_of_testBit_eq fun i => ?_)
  rw [tgN_testBit, spell_testBit, spell_testBit]
  by_cases hi : i < W
  · have e : W - i = (W - (i + 1)) + 1 := by omega
    rw [e, xr_head]
    by_cases h2 : i + 1 < W
    · simp only [hi, h2, decide_true, Bool.true_and]
      cases N.testBit i <;> cases xr N (i + 1) (W - (i + 1)) <;> rfl
    · have e0 : W - (i + 1) = 0 := by omega
      simp only [hi, h2, decide_true, decide_false, Bool.true_and, Bool.false_and, e0, xr]
      cases N.testBit i <;> rfl
  · have h2 : ¬ i + 1 < W := by omega
    simp [hi, h2, high_bit h (Nat.le_of_not_lt hi)]

def parN (N : Nat) : Nat :=
  let a := N ^^^ (N >>> 32)
  let b := a ^^^ (a >>> 16)
  let c := b ^^^ (b >>> 8)
  let d := c ^^^ (c >>> 4)
  let e := d ^^^ (d >>> 2)
  let f := e ^^^ (e >>> 1)
  f &&& 1
theorem and_one_bit (N : Nat) : N &&& 1 = (xr N 0 1).toNat := by
  rw [Nat.and_one_is_mod, xr, xr, Nat.testBit_eq_decide_div_mod_eq]
  have : N % 2 < 2 := Nat.mod_lt _ (by decide)
  by_cases h : N % 2 = 1
  · simp [h]
  · have : N % 2 = 0 := by omega
    simp [this]
theorem parN_eq (N : Nat) : parN N = (xr N 0 64).toNat := by
  unfold parN
  simp only [and_one_bit]
  rw [xr_double _ 1, xr_double _ 2, xr_double _ 4, xr_double _ 8, xr_double _ 16, xr_double _ 32]
theorem par_w {N W : Nat} (h : N < 2 ^ W) (hW : W ≤ 64) : parN N = (xr N 0 W).toNat := by
  have e : 64 = W + (64 - W) := by omega
  rw [parN_eq]
  conv => lhs; rw [e]
  rw [xr_add, xr_high h (show W ≤ 0 + W by omega)]
  simp
/-- sums of bits, mod 2 -/
theorem sum_mod (N i : Nat) : ∀ d, (((List.range d).map fun k => ib (N.testBit (i + k))).sum) % 2 = ib (xr N i d)
  | 0 => rfl
  | d + 1 => by
    have h := sum_mod N i d
    rw [List.range_succ, List.map_append, List.sum_append, Int.add_emod, h]
    simp only [List.map_cons, List.map_nil, List.sum_cons, List.sum_nil, xr]
    cases xr N i d <;> cases N.testBit (i + d) <;> rfl

theorem inv_testBit {N W i : Nat} (h : N < 2 ^ W) : (2 ^ W - 1 - N).testBit i = (decide (i < W) && !N.testBit i) := by
  have : 2 ^ W - 1 - N = 2 ^ W - (N + 1) := by omega
  rw [this, Nat.testBit_two_pow_sub_succ h]
theorem tg_inv {N W : Nat} (hW : 0 < W) (h : N < 2 ^ W) : tgN (2 ^ W - 1 - N) = spell (fun i => if i = W - 1 then !(tgN N).testBit i else (tgN N).testBit i) W := by
  refine eq_spell (tgN_lt (by omega)) fun i hi => ?_
  rw [tgN_testBit, inv_testBit h, inv_testBit h, tgN_testBit]
  by_cases e : i = W - 1
  · have h2 : ¬ i + 1 < W := by omega
    rw [high_bit h (show W ≤ i + 1 by omega)]
    simp [e]
    have : ¬ W - 1 + 1 < W := by omega
    have h3 : W - 1 < W := by omega
    simp [this, h3]
  · have h2 : i + 1 < W := by omega
    simp only [hi, h2, e, decide_true, Bool.true_and, if_false]
    cases N.testBit i <;> cases N.testBit (i + 1) <;> rfl
theorem flip_tg {G W : Nat} (hW : 0 < W) (h : G < 2 ^ W) : G ^^^ (1 <<< (W - 1)) = spell (fun i => if i = W - 1 then !G.testBit i else G.testBit i) W := by
  refine eq_spell ?_ fun i hi => ?_
  · refine Nat.xor_lt_two_pow h ?_
    rw [Nat.one_shiftLeft]
    exact Nat.pow_lt_pow_right (by decide) (by omega)
  · rw [Nat.testBit_xor, Nat.one_shiftLeft, Nat.testBit_two_pow]
    by_cases e : i = W - 1
    · simp [e]
    · have : ¬ W - 1 = i := by omega
      simp [e, this]
/-- the sign of a digit below 16 -/
def sgn (d : Nat) : Nat := if d < 10 then 48 + d else 87 + d
/-- w digits of N in base b -/
def fx (b N : Nat) : Nat → List Nat
  | 0 => []
  | w + 1 => fx b (N / b) w ++ [sgn (N % b)]
/-- the digits of N in base b, none for 0 (the second number is fuel) -/
def dt (b : Nat) : Nat → Nat → List Nat
  | 0, _ => []
  | f + 1, N => if N = 0 then [] else dt b f (N / b) ++ [sgn (N % b)]
theorem dt_fuel {b : Nat} (hb : 2 ≤ b) : ∀ f g N, N ≤ f → N ≤ g → dt b f N = dt b g N
  | 0, 0, _, _, _ => rfl
  | 0, g + 1, N, h, _ => by
    have : N = 0 := by omega
    subst this; simp [dt]
  | f + 1, 0, N, _, h => by
    have : N = 0 := by omega
    subst this; simp [dt]
  | f + 1, g + 1, N, h1, h2 => by
    rw [dt, dt]
    by_cases h0 : N = 0
    · simp [h0]
    · have hlt : N / b < N := Nat.div_lt_self (by omega) (by omega)
      rw [if_neg h0, if_neg h0, dt_fuel hb f g (N / b) (by omega) (by omega)]
def dtx (b N : Nat) : List Nat := dt b N N
theorem dtx_zero (b : Nat) : dtx b 0 = [] := rfl
theorem dtx_pos {b N : Nat} (hb : 2 ≤ b) (h : N ≠ 0) : dtx b N = dtx b (N / b) ++ [sgn (N % b)] := by
  obtain ⟨M, rfl⟩ : ∃ M, N = M + 1 := ⟨N - 1, by omega⟩
  have hlt : (M + 1) / b < M + 1 := Nat.div_lt_self (by omega) (by omega)
  unfold dtx
  rw [dt, if_neg h, dt_fuel hb M ((M + 1) / b) _ (by omega) (by omega)]
theorem fx_length (b : Nat) : ∀ N w, (fx b N w).length = w
  | _, 0 => rfl
  | N, w + 1 => by rw [fx, List.length_append, fx_length b _ w]; rfl
theorem fx_zero (b : Nat) (hb : 2 ≤ b) : ∀ w, fx b 0 w = List.replicate w 48
  | 0 => rfl
  | w + 1 => by
    rw [fx, Nat.zero_div, fx_zero b hb w, Nat.zero_mod, List.replicate_succ']
    rfl
/-- leading zeros and the digits -/
theorem fx_dtx {b : Nat} (hb : 2 ≤ b) : ∀ w N, N < b ^ w → (dtx b N).length ≤ w ∧ fx b N w = List.replicate (w - (dtx b N).length) 48 ++ dtx b N
  | 0, N, h => by
    have : N = 0 := by simpa using h
    subst this
    exact ⟨Nat.le_refl _, rfl⟩
  | w + 1, N, h => by
    by_cases h0 : N = 0
    · subst h0
      rw [dtx_zero, fx_zero b hb]
      exact ⟨Nat.zero_le _, by simp⟩
    · have hd : N / b < b ^ w := Nat.div_lt_of_lt_mul (by rw [Nat.pow_succ, Nat.mul_comm] at h; exact h)
      obtain ⟨h1, h2⟩ := fx_dtx hb w (N / b) hd
      rw [dtx_pos hb h0, fx, h2, List.length_append]
      refine ⟨by simp; omega, ?_⟩
      have e : w + 1 - ((dtx b (N / b)).length + [sgn (N % b)].length) = w - (dtx b (N / b)).length := by simp
      rw [e, List.append_assoc]
theorem sgn_pos {d : Nat} (h : d ≠ 0) : sgn d ≠ 48 := by unfold sgn; split <;> omega
/-- the first digit is not 0 -/
theorem dtx_head {b : Nat} (hb : 2 ≤ b) : ∀ f N, N ≤ f → (dtx b N).head? ≠ some 48
  | 0, N, h => by
    have : N = 0 := by omega
    subst this; simp [dtx_zero]
  | f + 1, N, h => by
    by_cases h0 : N = 0
    · subst h0; simp [dtx_zero]
    · have hlt : N / b < N := Nat.div_lt_self (by omega) (by omega)
      rw [dtx_pos hb h0]
      by_cases h1 : N / b = 0
      · rw [h1, dtx_zero]
        have : N % b = N := by
          have := Nat.div_add_mod N b
          rw [h1, Nat.mul_zero, Nat.zero_add] at this; exact this
        simpa [this] using sgn_pos h0
      · have ih := dtx_head hb f (N / b) (by omega)
        have hne : dtx b (N / b) ≠ [] := by
          rw [dtx_pos hb h1]; simp
        rw [List.head?_append]
        cases hd : (dtx b (N / b)).head? with
        | none => exact absurd (List.head?_eq_none_iff.mp hd) hne
        | some c => rw [hd] at ih; simpa using ih
theorem dtx_ne {b N : Nat} (hb : 2 ≤ b) (h : N ≠ 0) : dtx b N ≠ [] := by rw [dtx_pos hb h]; simp
/-- a place of the fixed digits -/
theorem fx_split (b : Nat) : ∀ v u N, fx b N (u + v) = fx b (N / b ^ v) u ++ fx b N v
  | 0, u, N => by simp [fx]
  | v + 1, u, N => by
    rw [← Nat.add_assoc, fx, fx_split b v u (N / b), fx, List.append_assoc, Nat.div_div_eq_div_mul, Nat.pow_succ, Nat.mul_comm b]
theorem fx_get {b N w k : Nat} (h : k < w) : (fx b N w)[w - 1 - k]? = some (sgn (N / b ^ k % b)) := by
  have e : w = (w - 1 - k) + (1 + k) := by omega
  have e2 := fx_split b (1 + k) (w - 1 - k) N
  rw [← e] at e2
  rw [e2, List.getElem?_append_right (by rw [fx_length]; exact Nat.le_refl _), fx_length, Nat.sub_self, fx_split b k 1 N]
  simp [fx]
/-- the value read from the front -/
def sv (l : List Nat) : Nat := l.foldl (fun n c => 2 * n + (if c = 49 then 1 else 0)) 0
theorem sv_append (l : List Nat) (c : Nat) : sv (l ++ [c]) = 2 * sv l + (if c = 49 then 1 else 0) := by simp [sv]
theorem sgn_bit (x : Nat) : (if sgn (x % 2) = 49 then 1 else 0) = x % 2 := by
  have : x % 2 = 0 ∨ x % 2 = 1 := by omega
  rcases this with h | h <;> rw [h] <;> rfl
theorem sv_fx : ∀ w N, N < 2 ^ w → sv (fx 2 N w) = N
  | 0, N, h => by
    have : N = 0 := by simpa using h
    subst this; rfl
  | w + 1, N, h => by
    rw [fx, sv_append, sv_fx w (N / 2) (Nat.div_lt_of_lt_mul (by rw [Nat.pow_succ, Nat.mul_comm] at h; exact h)), sgn_bit]
    omega
theorem sv_lt (l : List Nat) : sv l < 2 ^ l.length := by
  suffices h : ∀ (l : List Nat) (n k : Nat), n < 2 ^ k → l.foldl (fun n c => 2 * n + (if c = 49 then 1 else 0)) n < 2 ^ (k + l.length) by
    have := h l 0 0 (by decide)
    simpa [sv] using this
  intro l
  induction l with
  | nil => intro n k h; exact h
  | cons c r ih =>
    intro n k h
    rw [List.foldl_cons, List.length_cons]
    have := ih (2 * n + (if c = 49 then 1 else 0)) (k + 1) (by rw [Nat.pow_succ]; split <;> omega)
    rw [show k + (r.length + 1) = k + 1 + r.length by omega]
    exact this
theorem fx_mem {N c : Nat} : ∀ {w : Nat}, c ∈ fx 2 N w → c = 48 ∨ c = 49
  | 0, h => by simp [fx] at h
  | w + 1, h => by
    rw [fx, List.mem_append] at h
    rcases h with h | h
    · exact fx_mem h
    · rw [List.mem_singleton.mp h]
      have : N % 2 = 0 ∨ N % 2 = 1 := by omega
      rcases this with h | h <;> rw [h] <;> decide
/-- groups of k binary digits are digits of base 2 ^ k -/
theorem fx_chunk {N k q j : Nat} (h : j < q) : ((fx 2 N (k * q)).drop (k * j)).take k = fx 2 (N / (2 ^ k) ^ (q - 1 - j)) k := by
  have e : k * q = k * j + (k + k * (q - 1 - j)) := by
    have : q = j + (1 + (q - 1 - j)) := by omega
    conv => lhs; rw [this]
    rw [Nat.mul_add, Nat.mul_add, Nat.mul_one]
  rw [e, fx_split, List.drop_append, fx_length, Nat.sub_self, List.drop_eq_nil_of_le (by rw [fx_length]; exact Nat.le_refl _), fx_split]
  rw [List.nil_append, List.drop_zero, List.take_append, fx_length, Nat.sub_self, List.take_of_length_le (by rw [fx_length]; exact Nat.le_refl _), ← Nat.pow_mul]
  simp
theorem fx_mod (b : Nat) : ∀ w N, fx b (N % b ^ w) w = fx b N w
  | 0, _ => rfl
  | w + 1, N => by
    rw [fx, fx]
    have e1 : N % b ^ (w + 1) / b = N / b % b ^ w := by
      rw [Nat.pow_succ, Nat.mul_comm, Nat.mod_mul_right_div_self]
    have e2 : N % b ^ (w + 1) % b = N % b := Nat.mod_mod_of_dvd _ ⟨b ^ w, by rw [Nat.pow_succ, Nat.mul_comm]⟩
    rw [e1, e2, fx_mod b w]
theorem fx_grow {b N q k : Nat} (h : k < q) : fx b (N / b ^ (q - (k + 1))) (k + 1) = fx b (N / b ^ (q - k)) k ++ [sgn (N / b ^ (q - 1 - k) % b)] := by
  rw [fx, Nat.div_div_eq_div_mul, ← Nat.pow_succ]
  have e1 : q - (k + 1) + 1 = q - k := by omega
  have e2 : q - (k + 1) = q - 1 - k := by omega
  rw [Nat.succ_eq_add_one, e1, e2]
/-- the signs ahead that are 0 -/
def lead : List Nat → Nat
  | [] => 0
  | c :: r => if c = 48 then lead r + 1 else 0
theorem lead_rep (l : List Nat) (h : l.head? ≠ some 48) : ∀ z, lead (List.replicate z 48 ++ l) = z
  | 0 => by
    cases l with
    | nil => rfl
    | cons c r =>
      have : c ≠ 48 := fun e => h (by simp [e])
      simp [lead, this]
  | z + 1 => by
    rw [List.replicate_succ, List.cons_append, lead, if_pos rfl, lead_rep l h z]
def cut (l : List Nat) (least : Nat) : List Nat := l.drop (min (lead l) (l.length - least))
theorem cut_zero {N w : Nat} {b : Nat} (hb : 2 ≤ b) (h : N < b ^ w) : cut (fx b N w) 0 = dtx b N := by
  obtain ⟨h1, h2⟩ := fx_dtx hb w N h
  unfold cut
  rw [h2, lead_rep _ (dtx_head hb N N (Nat.le_refl _)), List.length_append, List.length_replicate, Nat.sub_zero, Nat.min_eq_left (by omega), List.drop_append, List.length_replicate, Nat.sub_self]
  simp
theorem cut_one {N w : Nat} {b : Nat} (hb : 2 ≤ b) (hw : 1 ≤ w) (h : N < b ^ w) : cut (fx b N w) 1 = if N = 0 then [48] else dtx b N := by
  obtain ⟨h1, h2⟩ := fx_dtx hb w N h
  by_cases h0 : N = 0
  · subst h0
    rw [fx_zero b hb, if_pos rfl]
    unfold cut
    have := lead_rep [] (by simp) w
    rw [List.append_nil] at this
    rw [this, List.length_replicate, Nat.min_eq_right (by omega), List.drop_replicate]
    have : w - (w - 1) = 1 := by omega
    rw [this]; rfl
  · rw [if_neg h0]
    have hne : 0 < (dtx b N).length := List.length_pos_iff.mpr (dtx_ne hb h0)
    unfold cut
    rw [h2, lead_rep _ (dtx_head hb N N (Nat.le_refl _)), List.length_append, List.length_replicate, Nat.min_eq_left (by omega), List.drop_append, List.length_replicate, Nat.sub_self]
    simp
/-- a text by its signs' numbers -/
def tx (l : List Nat) : Str := ⟨l.toArray⟩
theorem tx_length (l : List Nat) : (tx l).length = l.length := by simp [tx, Str.length]
theorem tx_inj {l r : List Nat} (h : tx l = tx r) : l = r := by
  have := congrArg (fun s : Str => s.cps.toList) h
  simpa [tx] using this
theorem tx_append (l r : List Nat) : tx l ++ tx r = tx (l ++ r) := Str.ext' (by rw [Str.cps_append]; simp [tx])
theorem tx_of (x : Str) : x = tx x.cps.toList := by cases x; simp [tx]
theorem tx_item {l : List Nat} {i : Int} (h0 : 0 ≤ i) (h1 : i < l.length) : Txt.item (tx l) i = tx [l.getD i.toNat 0] := by
  have hl := tx_length l
  unfold Txt.item Txt.charAt seqIndex?
  have h2 : ¬ i < 0 := by omega
  have h3 : i < ((tx l).length : Int) := by omega
  have h4 : i.toNat < l.length := by omega
  simp only [h2, h0, h3, if_false, decide_true, Bool.and_self, if_true, Option.bind_some]
  simp [tx, h4]
theorem tx_from {l : List Nat} {i : Int} (h0 : 0 ≤ i) (h1 : i ≤ l.length) : Txt.slice (tx l) (some i) none = tx (l.drop i.toNat) := by
  have hl := tx_length l
  rw [slice_from_eq (b := (tx l).length) h0 (by omega) rfl]
  unfold tx
  congr 2
  show (l.drop i.toNat).take _ = _
  refine List.take_of_length_le ?_
  rw [List.length_drop]
  show l.length - i.toNat ≤ (((tx l).length : Int) - i).toNat
  omega
theorem tx_upto {l : List Nat} {j : Int} (h0 : 0 ≤ j) (h1 : j ≤ l.length) : Txt.slice (tx l) none (some j) = tx (l.take j.toNat) := by
  have hl := tx_length l
  have h := slice_closes_toL (x := tx l) h0 (by omega)
  rw [beq_iff_eq.mp h]
  simp [tx]
theorem tx_run {l : List Nat} {i j : Int} (h0 : 0 ≤ i) (h1 : i ≤ j) (h2 : j ≤ l.length) : Txt.slice (tx l) (some i) (some j) = tx ((l.drop i.toNat).take (j - i).toNat) := by
  have hl := tx_length l
  have h := slice_closesL (x := tx l) h0 h1 (by omega)
  rw [beq_iff_eq.mp h]
  simp [tx]
theorem foldl_rep (c : Nat) : ∀ (n : Nat) (a : Array Nat), ((List.replicate n #[c]).foldl (· ++ ·) a).toList = a.toList ++ List.replicate n c
  | 0, a => by simp
  | n + 1, a => by
    rw [List.replicate_succ, List.foldl_cons, foldl_rep c n, List.replicate_succ]
    simp
theorem tx_mul (c : Nat) (n : Int) : Txt.mul (tx [c]) n = tx (List.replicate n.toNat c) := by
  unfold Txt.mul
  by_cases h1 : n < 1
  · have : n.toNat = 0 := by omega
    rw [if_pos h1, this]; rfl
  · rw [if_neg h1]
    by_cases h2 : n = 1
    · subst h2; rfl
    · have hb : (n == 1 || (tx [c]).length == 0) = false := by simp [h2, tx_length]
      rw [hb, if_neg (by simp)]
      have h := foldl_rep c n.toNat #[]
      unfold tx
      refine Str.ext' (Array.toList_inj.mp ?_)
      show ((List.replicate n.toNat #[c]).foldl (· ++ ·) #[]).toList = _
      rw [h]; simp
def codes (s : Str) : List Nat := s.cps.toList
theorem codes_tx (l : List Nat) : codes (tx l) = l := by simp [codes, tx]
theorem tx_codes (s : Str) : tx (codes s) = s := (tx_of s).symm
theorem codes_append (s t : Str) : codes (s ++ t) = codes s ++ codes t := by
  rw [← tx_codes s, ← tx_codes t, tx_append, codes_tx, codes_tx, codes_tx]
theorem codes_length (s : Str) : (codes s).length = s.length := by rw [← tx_length, tx_codes]
/-! signs -/
theorem item_hex {d : Int} (h0 : 0 ≤ d) (h1 : d < 16) : Txt.item (Str.ofString "0123456789abcdef") d = tx [sgn d.toNat] := by
  have e : Str.ofString "0123456789abcdef" = tx [48, 49, 50, 51, 52, 53, 54, 55, 56, 57, 97, 98, 99, 100, 101, 102] := rfl
  have key : ∀ k : Nat, k < 16 → ([48, 49, 50, 51, 52, 53, 54, 55, 56, 57, 97, 98, 99, 100, 101, 102] : List Nat).getD k 0 = sgn k := by decide
  rw [e, tx_item h0 (by simpa using h1), key _ (by omega)]
theorem item_bin {d : Int} (h0 : 0 ≤ d) (h1 : d < 2) : Txt.item (Str.ofString "01") d = tx [sgn d.toNat] := by
  have e : Str.ofString "01" = tx [48, 49] := rfl
  have key : ∀ k : Nat, k < 2 → ([48, 49] : List Nat).getD k 0 = sgn k := by decide
  rw [e, tx_item h0 (by simpa using h1), key _ (by omega)]
theorem item_oct {d : Int} (h0 : 0 ≤ d) (h1 : d < 8) : Txt.item (Str.ofString "01234567") d = tx [sgn d.toNat] := by
  have e : Str.ofString "01234567" = tx [48, 49, 50, 51, 52, 53, 54, 55] := rfl
  have key : ∀ k : Nat, k < 8 → ([48, 49, 50, 51, 52, 53, 54, 55] : List Nat).getD k 0 = sgn k := by decide
  rw [e, tx_item h0 (by simpa using h1), key _ (by omega)]
/-! digits by a while -/
def DgInv (b : Nat) (n0 n : Int) (text : Str) : Prop := 0 ≤ n ∧ 0 ≤ n0 ∧ n0 < 18446744073709551616 ∧ tx (dtx b n0.toNat) = tx (dtx b n.toNat) ++ text ∧ text.length ≤ 64
theorem dtx_len {b : Nat} (hb : 2 ≤ b) {n : Int} (h0 : 0 ≤ n) (h : n < 18446744073709551616) : (dtx b n.toNat).length ≤ 64 := by
  refine (fx_dtx hb 64 n.toNat ?_).1
  have h2 : (2 : Nat) ^ 64 ≤ b ^ 64 := Nat.pow_le_pow_left hb 64
  omega
theorem dg_start {b : Nat} {n0 : Int} (h0 : 0 ≤ n0) (h : n0 < 18446744073709551616) : DgInv b n0 n0 (Str.ofString "") := by
  refine ⟨h0, h0, h, ?_, Nat.zero_le _⟩
  have e : Str.ofString "" = tx [] := rfl
  rw [e, tx_append, List.append_nil]
theorem dg_turn {b : Nat} (hb : 2 ≤ b) {n0 n : Int} {text c : Str} (h : DgInv b n0 n text) (hn : n > 0) (hc : c = tx [sgn (n.toNat % b)]) {n' : Int} (hn' : n' = ((n.toNat / b : Nat) : Int)) : DgInv b n0 n' (c ++ text) := by
  obtain ⟨h1, h2, h3, h4, h5⟩ := h
  subst hn'
  have e : tx (dtx b n0.toNat) = tx (dtx b (n.toNat / b)) ++ (c ++ text) := by
    rw [h4, dtx_pos hb (show n.toNat ≠ 0 by omega), hc, ← tx_append, Str.append_assoc]
  refine ⟨Int.natCast_nonneg _, h2, h3, by rw [Int.toNat_natCast]; exact e, ?_⟩
  have e2 := congrArg Str.length e
  have := dtx_len hb h2 h3
  rw [tx_length] at e2
  have e3 : (tx (dtx b (n.toNat / b)) ++ (c ++ text)).length = (dtx b (n.toNat / b)).length + (c ++ text).length := by
    rw [← codes_length, codes_append, List.length_append, codes_length, codes_length, tx_length]
  omega
theorem dg_end {b : Nat} {n0 n : Int} {text : Str} (h : DgInv b n0 n text) (hn : ¬ n > 0) : text = tx (dtx b n0.toNat) := by
  obtain ⟨h1, h2, h3, h4, h5⟩ := h
  have : n.toNat = 0 := by omega
  rw [h4, this, dtx_zero]
  have e : tx [] = Str.ofString "" := rfl
  rw [← tx_codes text, tx_append, List.nil_append]
/-- the shifts of the loops -/
theorem and_mask {n : Int} (h : 0 ≤ n) (k : Nat) : Builtin.bitAnd n ((2 ^ k - 1 : Nat) : Int) = ((n.toNat % 2 ^ k : Nat) : Int) := by
  obtain ⟨N, rfl⟩ := Int.eq_ofNat_of_zero_le h
  rw [and_nat, Nat.and_two_pow_sub_one_eq_mod, Int.toNat_natCast]
theorem shr_div {n : Int} (h : 0 ≤ n) (k : Nat) : n.fdiv (2 ^ k) = ((n.toNat / 2 ^ k : Nat) : Int) := by
  obtain ⟨N, rfl⟩ := Int.eq_ofNat_of_zero_le h
  rw [shr_nat, Nat.shiftRight_eq_div_pow, Int.toNat_natCast]
theorem fdiv_nat {n : Int} (h : 0 ≤ n) (b : Nat) : n.fdiv (b : Int) = ((n.toNat / b : Nat) : Int) := by
  obtain ⟨N, rfl⟩ := Int.eq_ofNat_of_zero_le h
  rw [Int.fdiv_eq_ediv_of_nonneg _ (by omega), Int.toNat_natCast]; rfl
theorem fmod_natb {n : Int} (h : 0 ≤ n) (b : Nat) : n.fmod (b : Int) = ((n.toNat % b : Nat) : Int) := by
  obtain ⟨N, rfl⟩ := Int.eq_ofNat_of_zero_le h
  rw [Int.fmod_eq_emod_of_nonneg _ (by omega), Int.toNat_natCast]; rfl
/-! contract functions -/
def valS (s : Str) : Int := (sv (codes s) : Int)
def cutS (s : Str) (k : Int) : Str := tx (cut (codes s) k.toNat)
def btS (n w : Int) : Str := tx (List.replicate (w - (dtx 2 n.toNat).length).toNat 48 ++ dtx 2 n.toNat)
/-- a value that unification does not look into -/
noncomputable def hid {α : Type} (a : α) : α := Classical.choose (⟨a, rfl⟩ : ∃ b : α, b = a)
theorem hid_eq {α : Type} (a : α) : hid a = a := Classical.choose_spec (⟨a, rfl⟩ : ∃ b : α, b = a)
noncomputable def dgS (n b : Int) : Str := hid (tx (if n = 0 then [48] else dtx b.toNat n.toNat))
theorem valS_fx {N w : Nat} (h : N < 2 ^ w) : valS (tx (fx 2 N w)) = (N : Int) := by
  unfold valS; rw [codes_tx, sv_fx w N h]
/-! _law_value: from behind -/
theorem sv_shift : ∀ (r : List Nat) (n : Nat), r.foldl (fun n c => 2 * n + (if c = 49 then 1 else 0)) n = n * 2 ^ r.length + sv r
  | [], n => by simp [sv]
  | c :: r, n => by
    have h1 := sv_shift r (2 * n + (if c = 49 then 1 else 0))
    have h2 := sv_shift r (2 * 0 + (if c = 49 then 1 else 0))
    have e : sv (c :: r) = r.foldl (fun n c => 2 * n + (if c = 49 then 1 else 0)) (2 * 0 + (if c = 49 then 1 else 0)) := rfl
    rw [List.foldl_cons, h1, e, h2, List.length_cons, Nat.pow_succ, Nat.add_mul, Nat.mul_zero, Nat.zero_add]
    have : 2 * n * 2 ^ r.length = n * (2 ^ r.length * 2) := by rw [Nat.mul_comm 2 n, Nat.mul_assoc, Nat.mul_comm 2]
    omega
theorem sv_cons (c : Nat) (r : List Nat) : sv (c :: r) = (if c = 49 then 1 else 0) * 2 ^ r.length + sv r := by
  have := sv_shift r (2 * 0 + (if c = 49 then 1 else 0))
  have e : sv (c :: r) = r.foldl (fun n c => 2 * n + (if c = 49 then 1 else 0)) (2 * 0 + (if c = 49 then 1 else 0)) := rfl
  rw [e, this, Nat.mul_zero, Nat.zero_add]
def VlInv (s : Str) (k : Nat) (total weight : Int) : Prop := k ≤ s.length ∧ weight = 2 ^ k ∧ total = (sv ((codes s).drop (s.length - k)) : Int)
theorem vl_start (s : Str) : VlInv s 0 0 1 := by
  refine ⟨by omega, by simp, ?_⟩
  rw [← codes_length, Nat.sub_zero, List.drop_length]; rfl
theorem vl_drop {s : Str} {k : Nat} (hk : k < s.length) : (codes s).drop (s.length - (k + 1)) = (codes s).getD (s.length - 1 - k) 0 :: (codes s).drop (s.length - k) := by
  have hl := codes_length s
  have hlt : s.length - (k + 1) < (codes s).length := by omega
  rw [List.drop_eq_getElem_cons hlt]
  have e1 : s.length - (k + 1) + 1 = s.length - k := by omega
  have e2 : s.length - 1 - k = s.length - (k + 1) := by omega
  rw [e1, e2, List.getD_eq_getElem?_getD, List.getElem?_eq_getElem hlt]; rfl
theorem vl_turn {s : Str} {k : Nat} {total weight : Int} (h : VlInv s k total weight) (hk : k < s.length) :
    VlInv s (k + 1) (if (codes s).getD (s.length - 1 - k) 0 = 49 then total + weight else total) (weight * 2) := by
  obtain ⟨h1, h2, h3⟩ := h
  refine ⟨by omega, by rw [h2, Int.pow_succ], ?_⟩
  have hl := codes_length s
  rw [vl_drop hk, sv_cons, List.length_drop, hl]
  have : s.length - (s.length - k) = k := by omega
  rw [this, h2, h3]
  split
  · rw [Nat.one_mul]; push_cast; omega
  · rw [Nat.zero_mul, Nat.zero_add]
theorem vl_end {s : Str} {total weight : Int} (h : VlInv s s.length total weight) : total = valS s := by
  obtain ⟨_, _, h3⟩ := h
  rw [Nat.sub_self, List.drop_zero] at h3
  exact h3
theorem item_code {s : Str} {i : Int} (h0 : 0 ≤ i) (h1 : i < s.length) : Txt.item s i = tx [(codes s).getD i.toNat 0] := by
  have := tx_item (l := codes s) h0 (by rw [codes_length]; exact h1)
  rw [tx_codes] at this; exact this
theorem one_eq {c d : Nat} : tx [c] = tx [d] ↔ c = d := ⟨fun h => by have := tx_inj h; simpa using this, fun h => by rw [h]⟩
/-! _law_cut -/
theorem lead_le : ∀ l : List Nat, lead l ≤ l.length
  | [] => Nat.le_refl _
  | c :: r => by
    have := lead_le r
    unfold lead; rw [List.length_cons]; split <;> omega
theorem lead_get : ∀ (l : List Nat) (i : Nat), i < l.length → i ≤ lead l → (l.getD i 0 = 48 ↔ i < lead l)
  | [], i, h, _ => by simp at h
  | c :: r, 0, _, _ => by
    unfold lead
    by_cases hc : c = 48
    · simp [hc]
    · simp [hc]
  | c :: r, i + 1, h, h2 => by
    unfold lead at h2 ⊢
    by_cases hc : c = 48
    · rw [if_pos hc] at h2 ⊢
      have := lead_get r i (by simpa using h) (by omega)
      rw [List.getD_cons_succ, this]; omega
    · rw [if_neg hc] at h2; omega
def CtInv (s : Str) (least at_ : Int) : Prop := 0 ≤ least ∧ 0 ≤ at_ ∧ at_ ≤ (lead (codes s) : Int) ∧ (at_ = 0 ∨ at_ ≤ (s.length : Int) - least)
theorem ct_start (s : Str) {least : Int} (h : 0 ≤ least) : CtInv s least 0 := ⟨h, by omega, by omega, Or.inl rfl⟩
theorem ct_turn {s : Str} {least i : Int} (h : CtInv s least i) (h1 : i < (s.length : Int) - least) (h2 : (codes s).getD i.toNat 0 = 48) : CtInv s least (i + 1) := by
  obtain ⟨a, b, c, d⟩ := h
  have hl := codes_length s
  have := (lead_get (codes s) i.toNat (by omega) (by omega)).mp h2
  exact ⟨a, by omega, by omega, Or.inr (by omega)⟩
theorem ct_end1 {s : Str} {least i : Int} (h : CtInv s least i) (h1 : ¬ i < (s.length : Int) - least) : tx ((codes s).drop i.toNat) = cutS s least := by
  obtain ⟨a, b, c, d⟩ := h
  have hl := codes_length s
  have hd := lead_le (codes s)
  unfold cutS cut
  congr 2
  rw [hl]
  rcases d with d | d
  · subst d
    have : s.length - least.toNat = 0 := by omega
    rw [this]; simp
  · have : i.toNat = s.length - least.toNat := by omega
    rw [this, Nat.min_eq_right (by omega)]
theorem ct_end2 {s : Str} {least i : Int} (h : CtInv s least i) (h1 : i < (s.length : Int) - least) (h2 : ¬ (codes s).getD i.toNat 0 = 48) : tx ((codes s).drop i.toNat) = cutS s least := by
  obtain ⟨a, b, c, d⟩ := h
  have hl := codes_length s
  have h3 := lead_get (codes s) i.toNat (by omega) (by omega)
  have : ¬ i.toNat < lead (codes s) := fun h => h2 (h3.mpr h)
  have e : i.toNat = lead (codes s) := by omega
  unfold cutS cut
  rw [← e, Nat.min_eq_left (by omega)]
/-! the law's ends -/
theorem cutS_zero {N w : Nat} (h : N < 2 ^ w) : cutS (tx (fx 2 N w)) 0 = tx (dtx 2 N) := by
  unfold cutS; rw [codes_tx]; exact congrArg tx (cut_zero (by decide) h)
theorem btS_full {N w : Nat} (h : N < 2 ^ w) : btS N w = tx (fx 2 N w) := by
  obtain ⟨h1, h2⟩ := fx_dtx (by decide) w N h
  unfold btS
  rw [h2, Int.toNat_natCast]
  congr 3
  omega
/-! _law_make: the loop -/
def MkInv (m0 : Int) (k : Nat) (s : Str) (m : Int) : Prop := m = m0.fdiv (2 ^ k) ∧ s = tx (fx 2 (m0 % 18446744073709551616).toNat k)
theorem mk_start (m0 : Int) : MkInv m0 0 (Str.ofString "") m0 := by
  refine ⟨?_, rfl⟩
  rw [Int.pow_zero, Int.fdiv_one]
theorem mk_bit (m0 : Int) {k : Nat} (hk : k < 64) : (m0.fdiv (2 ^ k)).fmod 2 = (((m0 % 18446744073709551616).toNat / 2 ^ k % 2 : Nat) : Int) := by
  have hp := pw_pos k
  have hr : 0 ≤ m0 % 18446744073709551616 := Int.emod_nonneg _ (by decide)
  rw [Int.fdiv_eq_ediv_of_nonneg _ (by omega), Int.fmod_eq_emod_of_nonneg _ (by decide)]
  have e : (18446744073709551616 : Int) = 2 ^ k * (2 * 2 ^ (63 - k)) := by
    have : (18446744073709551616 : Int) = 2 ^ 64 := by decide
    rw [this, ← Int.pow_succ', ← Int.pow_add]
    congr 1; omega
  have e2 : m0 / 2 ^ k = (m0 % 18446744073709551616) / 2 ^ k + 2 * (2 ^ (63 - k) * (m0 / 18446744073709551616)) := by
    have h := Int.emod_add_mul_ediv m0 18446744073709551616
    conv => lhs; rw [← h, e, Int.mul_assoc, Int.add_mul_ediv_left _ _ (show (2 : Int) ^ k ≠ 0 by omega), ← e, Int.mul_assoc]
  rw [e2, Int.add_mul_emod_self_left]
  obtain ⟨R, hR⟩ := Int.eq_ofNat_of_zero_le hr
  rw [hR, Int.toNat_natCast]
  norm_cast
theorem mk_turn {m0 m : Int} {k : Nat} {s : Str} (h : MkInv m0 k s m) (hk : k < 64) : MkInv m0 (k + 1) (Txt.item (Str.ofString "0123456789abcdef") (m.fmod 2) ++ s) (m.fdiv 2) := by
  obtain ⟨h1, h2⟩ := h
  have hp := pw_pos k
  refine ⟨?_, ?_⟩
  · rw [h1, Int.fdiv_eq_ediv_of_nonneg _ (by omega), Int.fdiv_eq_ediv_of_nonneg _ (by omega), Int.fdiv_eq_ediv_of_nonneg _ (by have := pw_pos (k + 1); omega), Int.ediv_ediv_of_nonneg (by omega), Int.pow_succ]
  · have hb := mk_bit m0 hk
    rw [← h1] at hb
    have hr := fmod_range m (show (0 : Int) < 2 by decide)
    rw [item_hex hr.1 (by omega), hb, Int.toNat_natCast, h2, tx_append, Nat.add_comm k 1, fx_split 2 k 1]
    rfl
/-- what _law_make hands back -/
def Bin (s : Str) : Prop := ∃ N w : Nat, 1 ≤ w ∧ w ≤ 64 ∧ N < 2 ^ w ∧ s = tx (fx 2 N w)
theorem mk_end {m0 m : Int} {k : Nat} {s : Str} (h : MkInv m0 k s m) (h1 : 1 ≤ k) (h2 : k ≤ 64) : Bin s :=
  ⟨(m0 % 18446744073709551616).toNat % 2 ^ k, k, h1, h2, Nat.mod_lt _ (Nat.two_pow_pos k), by rw [h.2, fx_mod]⟩
/-! zeros ahead -/
theorem fx_zero_ahead {N v : Nat} (h : N < 2 ^ v) : tx [48] ++ tx (fx 2 N v) = tx (fx 2 N (v + 1)) := by
  rw [tx_append, Nat.add_comm v 1, fx_split 2 v 1, Nat.div_eq_of_lt h]
  rfl
def PadInv (s0 s : Str) (size : Nat) : Prop := ∃ v q : Nat, s = tx (fx 2 (valS s0).toNat v) ∧ (valS s0).toNat < 2 ^ v ∧ 1 ≤ v ∧ v ≤ size * q ∧ size * q ≤ 67
theorem pad_start {N w size : Nat} (hs : size = 3 ∨ size = 4) (h1 : 1 ≤ w) (h2 : w ≤ 64) (h : N < 2 ^ w) : PadInv (tx (fx 2 N w)) (tx (fx 2 N w)) size := by
  have e : (valS (tx (fx 2 N w))).toNat = N := by rw [valS_fx h, Int.toNat_natCast]
  unfold PadInv
  rw [e]
  rcases hs with rfl | rfl
  · exact ⟨w, (w + 2) / 3, rfl, h, h1, by omega, by omega⟩
  · exact ⟨w, (w + 3) / 4, rfl, h, h1, by omega, by omega⟩
theorem fx_len (N v : Nat) : (tx (fx 2 N v)).length = v := by rw [tx_length, fx_length]
theorem pad_turn {s0 s : Str} {size : Nat} (hs : size = 3 ∨ size = 4) (h : PadInv s0 s size) (hm : ((s.length : Int)).fmod (size : Int) > 0) : PadInv s0 (tx [48] ++ s) size ∧ (tx [48] ++ s).length ≤ 67 := by
  obtain ⟨v, q, rfl, h1, h2, h3, h4⟩ := h
  rw [fx_len, Int.fmod_eq_emod_of_nonneg _ (by omega)] at hm
  rw [fx_zero_ahead h1, fx_len]
  have : v ≠ size * q := by
    intro e
    rw [e] at hm
    push_cast at hm
    rw [Int.mul_emod_right] at hm
    omega
  refine ⟨⟨v + 1, q, rfl, ?_, by omega, by omega, h4⟩, by omega⟩
  rw [Nat.pow_succ]; omega
theorem pad_len {s0 s : Str} {size : Nat} (h : PadInv s0 s size) : s.length ≤ 67 := by
  obtain ⟨v, q, rfl, h1, h2, h3, h4⟩ := h
  rw [fx_len]; omega
theorem pad_less {s : Str} {size : Nat} (hs : size = 3 ∨ size = 4) (hm : ((s.length : Int)).fmod (size : Int) > 0) :
    ((-((tx [48] ++ s).length : Int)).fmod (size : Int)).toNat < ((-(s.length : Int)).fmod (size : Int)).toNat := by
  have e : (tx [48] ++ s).length = s.length + 1 := by
    rw [← codes_length, codes_append, List.length_append, codes_length, codes_length, tx_length]
    exact Nat.add_comm _ _
  rw [e]
  rw [Int.fmod_eq_emod_of_nonneg _ (by omega)] at hm ⊢
  rw [Int.fmod_eq_emod_of_nonneg _ (by omega)]
  rcases hs with rfl | rfl <;> (push_cast; push_cast at hm; omega)
/-- behind the padding -/
theorem pad_end {s0 s : Str} {size : Nat} (hs : size = 3 ∨ size = 4) (h : PadInv s0 s size) (hm : ¬ ((s.length : Int)).fmod (size : Int) > 0) :
    ∃ q : Nat, s = tx (fx 2 (valS s0).toNat (size * q)) ∧ (valS s0).toNat < 2 ^ (size * q) ∧ 1 ≤ q ∧ size * q ≤ 67 ∧ s.length = size * q := by
  obtain ⟨v, q, rfl, h1, h2, h3, h4⟩ := h
  rw [fx_len, Int.fmod_eq_emod_of_nonneg _ (by omega)] at hm
  have e : v = size * (v / size) := by
    rcases hs with rfl | rfl <;> (push_cast at hm; omega)
  have hq : 1 ≤ v / size := by rcases hs with rfl | rfl <;> omega
  refine ⟨v / size, ?_, ?_, hq, ?_, ?_⟩
  · rw [← e]
  · rw [← e]; exact h1
  · omega
  · rw [fx_len]; exact e
/-! the groups -/
def GrpInv (s : Str) (size : Nat) (k : Nat) (t : Str) : Prop := t = tx (fx (2 ^ size) ((valS s).toNat / (2 ^ size) ^ (s.length / size - k)) k)
theorem grp_start (s : Str) (size : Nat) : GrpInv s size 0 (Str.ofString "") := rfl
theorem grp_key {N size q j : Nat} (hj : j < q) :
    Txt.slice (tx (fx 2 N (size * q))) (some ((j : Int) * (size : Int))) (some ((j : Int) * (size : Int) + (size : Int))) = tx (fx 2 (N / (2 ^ size) ^ (q - 1 - j) % 2 ^ size) size) := by
  have h1 : j * size + size ≤ size * q := by
    have : (j + 1) * size ≤ q * size := Nat.mul_le_mul_right _ hj
    rw [Nat.succ_mul] at this
    rw [Nat.mul_comm size q]; exact this
  have e1 : ((j : Int) * (size : Int)) = ((j * size : Nat) : Int) := by push_cast; rfl
  rw [tx_run (by omega) (by omega) (by rw [fx_length, e1]; omega)]
  have e2 : ((j : Int) * (size : Int)).toNat = size * j := by rw [e1, Int.toNat_natCast, Nat.mul_comm]
  have e3 : ((j : Int) * (size : Int) + (size : Int) - (j : Int) * (size : Int)).toNat = size := by omega
  rw [e2, e3, fx_chunk hj, fx_mod]
theorem grp_turn {N size q j d : Nat} (hj : j < q) (hN : N < 2 ^ (size * q)) (hsz : 1 ≤ size) {t : Str} (h : GrpInv (tx (fx 2 N (size * q))) size j t) (hd : N / (2 ^ size) ^ (q - 1 - j) % 2 ^ size = d) :
    GrpInv (tx (fx 2 N (size * q))) size (j + 1) (t ++ tx [sgn d]) := by
  unfold GrpInv at *
  rw [valS_fx hN, Int.toNat_natCast, fx_len, Nat.mul_div_cancel_left _ hsz] at *
  rw [h, tx_append, fx_grow hj, hd]
theorem grp_end {N size q : Nat} (hN : N < 2 ^ (size * q)) (hsz : 1 ≤ size) {t : Str} (h : GrpInv (tx (fx 2 N (size * q))) size q t) : t = tx (fx (2 ^ size) N q) := by
  unfold GrpInv at h
  rw [valS_fx hN, Int.toNat_natCast, fx_len, Nat.mul_div_cancel_left _ hsz, Nat.sub_self, Nat.pow_zero, Nat.div_one] at h
  exact h
theorem grp_cut {N size q : Nat} (hN : N < 2 ^ (size * q)) (hsz : 1 ≤ size) (hq : 1 ≤ q) : cutS (tx (fx (2 ^ size) N q)) 1 = dgS N ((2 ^ size : Nat) : Int) := by
  unfold cutS dgS
  rw [hid_eq]
  rw [codes_tx]
  have e1 : (1 : Int).toNat = 1 := rfl
  have hb : 2 ≤ 2 ^ size := by
    have := Nat.pow_le_pow_right (n := 2) (by decide) hsz
    simpa using this
  rw [e1, cut_one hb hq (by rw [← Nat.pow_mul]; exact hN), Int.toNat_natCast, Int.toNat_natCast]
  congr 1
  by_cases h0 : N = 0
  · simp [h0]
  · rw [if_neg h0, if_neg (by omega)]
/-! the wider text -/
def WtInv (w0 : Str) (v : Int) (w : Str) : Prop := ∃ z : Nat, w = tx (List.replicate z 48) ++ w0 ∧ (z = 0 ∨ (w.length : Int) ≤ v)
theorem wt_start (w0 : Str) (v : Int) : WtInv w0 v w0 := by
  refine ⟨0, ?_, Or.inl rfl⟩
  rw [← tx_codes w0, tx_append]; rfl
theorem len_one (s : Str) : (tx [48] ++ s).length = s.length + 1 := by
  rw [← codes_length, codes_append, List.length_append, codes_length, codes_length, tx_length]
  exact Nat.add_comm _ _
theorem wt_turn {w0 w : Str} {v : Int} (h : WtInv w0 v w) (hl : (w.length : Int) < v) : WtInv w0 v (tx [48] ++ w) := by
  obtain ⟨z, h1, h2⟩ := h
  refine ⟨z + 1, ?_, Or.inr (by rw [len_one]; omega)⟩
  rw [h1, ← tx_codes w0, tx_append, tx_append, tx_append]
  rfl
theorem wt_end {w0 w : Str} {v : Int} (h : WtInv w0 v w) (hl : ¬ (w.length : Int) < v) : w = tx (List.replicate (v - w0.length).toNat 48) ++ w0 := by
  obtain ⟨z, h1, h2⟩ := h
  have e : w.length = z + w0.length := by
    rw [h1, ← codes_length, codes_append, List.length_append, codes_length, codes_length, tx_length, List.length_replicate]
  have : (v - w0.length).toNat = z := by omega
  rw [this]; exact h1
theorem wt_bt {N w : Nat} {v : Int} (h : N < 2 ^ w) : tx (List.replicate (v - (cutS (tx (fx 2 N w)) 0).length).toNat 48) ++ cutS (tx (fx 2 N w)) 0 = btS N v := by
  rw [cutS_zero h, tx_length, tx_append]
  unfold btS
  rw [Int.toNat_natCast]
/-! a text with a wrong sign -/
def Bad (s : Str) : Prop := s.length ≤ 64 ∧ ∃ c ∈ codes s, c ≠ 48 ∧ c ≠ 49
/-! reading -/
def svI (l : List Int) : Int := (sv (l.map Int.toNat) : Int)
def RdInv (pre : List Int) (n : Int) : Prop := n = svI pre ∧ ∀ c ∈ pre, c = 48 ∨ c = 49
theorem rd_start : RdInv [] 0 := ⟨rfl, by simp⟩
theorem svI_append (pre : List Int) (c : Int) : svI (pre ++ [c]) = 2 * svI pre + (if c.toNat = 49 then 1 else 0) := by
  unfold svI
  rw [List.map_append, List.map_singleton, sv_append]
  split <;> push_cast <;> rfl
theorem svI_lt (pre : List Int) : svI pre < 2 ^ pre.length := by
  unfold svI
  have := sv_lt (pre.map Int.toNat)
  rw [List.length_map] at this
  exact_mod_cast this
theorem svI_nn (pre : List Int) : 0 ≤ svI pre := by unfold svI; omega
theorem rd_one {pre : List Int} {n : Int} (h : RdInv pre n) : RdInv (pre ++ [49]) (Builtin.bitOr (n * 2 ^ (1 : Int).toNat) 1) := by
  obtain ⟨h1, h2⟩ := h
  refine ⟨?_, ?_⟩
  · rw [svI_append]
    have := svI_nn pre
    obtain ⟨N, hN⟩ := Int.eq_ofNat_of_zero_le this
    have o : (1 : Int) = ((1 : Nat) : Int) := rfl
    have e1 : (1 : Int).toNat = 1 := rfl
    rw [h1, hN, e1, shl_nat]
    conv => lhs; rw [o, or_nat]
    rw [Nat.shiftLeft_eq, Nat.pow_one, Nat.mul_comm]
    have := (Nat.two_pow_add_eq_or_of_lt (i := 1) (b := 1) (by decide) N).symm
    rw [Nat.pow_one] at this
    rw [this, if_pos (show (49 : Int).toNat = 49 from rfl)]
    push_cast; rfl
  · intro c hc
    rcases List.mem_append.mp hc with hc | hc
    · exact h2 c hc
    · rw [List.mem_singleton.mp hc]; exact Or.inr rfl
theorem rd_zero {pre : List Int} {n : Int} (h : RdInv pre n) : RdInv (pre ++ [48]) (n * 2 ^ (1 : Int).toNat) := by
  obtain ⟨h1, h2⟩ := h
  refine ⟨?_, ?_⟩
  · rw [svI_append, h1, if_neg (show ¬ (48 : Int).toNat = 49 by decide)]
    show svI pre * 2 ^ 1 = _
    omega
  · intro c hc
    rcases List.mem_append.mp hc with hc | hc
    · exact h2 c hc
    · rw [List.mem_singleton.mp hc]; exact Or.inl rfl
theorem rd_small {pre : List Int} {n : Int} (h : RdInv pre n) (hp : pre.length ≤ 64) : n.natAbs < 2 ^ 64 := by
  have h1 := svI_lt pre
  have h0 := svI_nn pre
  have h2 := pw_le hp
  have : (n.natAbs : Int) < 2 ^ 64 := by rw [h.1]; omega
  exact_mod_cast this
def codesI (x : Str) : List Int := x.cps.toList.map fun (c : Nat) => (c : Int)
theorem codesI_nat (x : Str) : (codesI x).map Int.toNat = codes x := by
  unfold codesI codes
  rw [List.map_map]
  exact (List.map_congr_left (g := _root_.id) fun c _ => Int.toNat_natCast c).trans (List.map_id _)
theorem rd_end {x : Str} {n : Int} (h : RdInv (codesI x) n) : n = valS x := by
  rw [h.1]
  unfold svI valS
  rw [codesI_nat]
theorem rd_bad {x : Str} {n : Int} (hb : Bad x) (h : RdInv (codesI x) n) : False := by
  obtain ⟨_, c, hc, h1, h2⟩ := hb
  have := h.2 (c : Int) (List.mem_map.mpr ⟨c, hc, rfl⟩)
  omega
theorem rd_good {N w c : Nat} {pre post : List Int} (h : codesI (tx (fx 2 N w)) = pre ++ (c : Int) :: post) : c = 48 ∨ c = 49 := by
  have hm : (c : Int) ∈ codesI (tx (fx 2 N w)) := by rw [h]; simp
  obtain ⟨d, hd, e⟩ := List.mem_map.mp hm
  have : d = c := by omega
  subst this
  have e2 : (tx (fx 2 N w)).cps.toList = fx 2 N w := codes_tx _
  rw [e2] at hd
  exact fx_mem hd
theorem bad_of {N w : Nat} {p i : Int} (hw : w ≤ 64) (h0 : 0 ≤ p) (h1 : p < w) (h2 : 0 ≤ i) (h3 : i < 12) :
    Bad (Txt.slice (tx (fx 2 N w)) none (some p) ++ Txt.item (Str.ofString "2/ a-_Ol9b+:") i ++ Txt.slice (tx (fx 2 N w)) (some (p + 1)) none) := by
  have e : Str.ofString "2/ a-_Ol9b+:" = tx [50, 47, 32, 97, 45, 95, 79, 108, 57, 98, 43, 58] := rfl
  have key : ∀ k : Nat, k < 12 → ([50, 47, 32, 97, 45, 95, 79, 108, 57, 98, 43, 58] : List Nat).getD k 0 ≠ 48 ∧ ([50, 47, 32, 97, 45, 95, 79, 108, 57, 98, 43, 58] : List Nat).getD k 0 ≠ 49 := by decide
  have hk := key i.toNat (by omega)
  rw [e, tx_item h2 (by simpa using h3), tx_upto h0 (by rw [fx_length]; omega), tx_from (by omega) (by rw [fx_length]; omega), tx_append, tx_append]
  generalize ([50, 47, 32, 97, 45, 95, 79, 108, 57, 98, 43, 58] : List Nat).getD i.toNat 0 = c at hk
  refine ⟨?_, c, ?_, hk⟩
  · rw [tx_length]
    simp [fx_length]
    omega
  · rw [codes_tx]; simp
theorem pre_len {x : Str} {c : Int} {pre post : List Int} (h : codesI x = pre ++ c :: post) (hx : x.length ≤ 64) : pre.length < 64 := by
  have := congrArg List.length h
  unfold codesI at this
  rw [List.length_map, List.length_append, List.length_cons] at this
  have e : x.cps.toList.length = x.length := codes_length x
  omega
/-! the groups, by a base b -/
def GP (N q b : Nat) (i : Nat) (t : Str) : Prop := t = tx (fx b (N / b ^ (q - i)) i)
theorem gp_start (N q b : Nat) : GP N q b 0 (Str.ofString "") := rfl
theorem gp_turn {N q b j : Nat} {t : Str} (h : GP N q b j t) (hj : j < q) : GP N q b (j + 1) (t ++ tx [sgn (N / b ^ (q - 1 - j) % b)]) := by
  unfold GP at *
  rw [h, tx_append, fx_grow hj]
theorem gp_len {N q b i : Nat} {t : Str} (h : GP N q b i t) : t.length = i := by
  unfold GP at h
  rw [h, tx_length, fx_length]
theorem gp_end {N q b : Nat} {t : Str} (h : GP N q b q t) : t = tx (fx b N q) := by
  unfold GP at h
  rw [h, Nat.sub_self, Nat.pow_zero, Nat.div_one]
theorem gp_cut16 {N q : Nat} {t : Str} (h : GP N q 16 q t) (hN : N < 2 ^ (4 * q)) (hq : 1 ≤ q) : cutS t 1 = dgS (N : Int) 16 := by
  rw [gp_end h]
  exact grp_cut (size := 4) hN (by decide) hq
theorem gp_cut8 {N q : Nat} {t : Str} (h : GP N q 8 q t) (hN : N < 2 ^ (3 * q)) (hq : 1 ≤ q) : cutS t 1 = dgS (N : Int) 8 := by
  rw [gp_end h]
  exact grp_cut (size := 3) hN (by decide) hq
theorem pad_out {N w : Nat} {s : Str} {size : Nat} (hs : size = 3 ∨ size = 4) (hm : ¬ ((s.length : Int)).fmod (size : Int) > 0) (h : PadInv (tx (fx 2 N w)) s size) (hN : N < 2 ^ w) :
    ∃ q : Nat, s = tx (fx 2 N (size * q)) ∧ N < 2 ^ (size * q) ∧ 1 ≤ q ∧ size * q ≤ 67 := by
  obtain ⟨q, h1, h2, h3, h4, _⟩ := pad_end hs h hm
  have e : (valS (tx (fx 2 N w))).toNat = N := by rw [valS_fx hN, Int.toNat_natCast]
  rw [e] at h1 h2
  exact ⟨q, h1, h2, h3, h4⟩
theorem pad4 {N w : Nat} {s : Str} (hm : ¬ ((s.length : Int)).fmod 4 > 0) (h : PadInv (tx (fx 2 N w)) s (4 : Int).toNat) (hN : N < 2 ^ w) :
    ∃ q : Nat, s = tx (fx 2 N (4 * q)) ∧ N < 2 ^ (4 * q) ∧ 1 ≤ q ∧ 4 * q ≤ 67 := pad_out (size := 4) (Or.inr rfl) hm h hN
theorem pad3 {N w : Nat} {s : Str} (hm : ¬ ((s.length : Int)).fmod 3 > 0) (h : PadInv (tx (fx 2 N w)) s (3 : Int).toNat) (hN : N < 2 ^ w) :
    ∃ q : Nat, s = tx (fx 2 N (3 * q)) ∧ N < 2 ^ (3 * q) ∧ 1 ≤ q ∧ 3 * q ≤ 67 := pad_out (size := 3) (Or.inl rfl) hm h hN
theorem key4 {N q j : Nat} (hj : j < q) : Txt.slice (tx (fx 2 N (4 * q))) (some ((j : Int) * 4)) (some ((j : Int) * 4 + 4)) = tx (fx 2 (N / 16 ^ (q - 1 - j) % 16) 4) := grp_key (size := 4) hj
theorem key3 {N q j : Nat} (hj : j < q) : Txt.slice (tx (fx 2 N (3 * q))) (some ((j : Int) * 3)) (some ((j : Int) * 3 + 3)) = tx (fx 2 (N / 8 ^ (q - 1 - j) % 8) 3) := grp_key (size := 3) hj
/-- the wrong text -/
theorem gen_bad {N w : Nat} {p i : Int} {R : Str → Prop} (hw : w ≤ 64) (h0 : 0 ≤ p) (h1 : p < w) (h2 : 0 ≤ i) (h3 : i < 12) (h : ∀ X : Str, Bad X → X.length ≤ 64 → R X) :
    R (Txt.slice (tx (fx 2 N w)) none (some p) ++ Txt.item (Str.ofString "2/ a-_Ol9b+:") i ++ Txt.slice (tx (fx 2 N w)) (some (p + 1)) none) :=
  have hb := bad_of (N := N) hw h0 h1 h2 h3
  h _ hb hb.1
theorem gen_badF {N w : Nat} {p c : Int} {R : Str → Prop} (hw : w ≤ 64) (h0 : 0 ≤ p) (h1 : p < w) (h : ∀ X : Str, Bad X → X.length ≤ 64 → R X) :
    R (Txt.slice (tx (fx 2 N w)) none (some p) ++ Txt.item (Str.ofString "2/ a-_Ol9b+:") (c.fmod ((12 : Nat) : Int)) ++ Txt.slice (tx (fx 2 N w)) (some (p + 1)) none) :=
  have hr := fmod_range c (show (0 : Int) < ((12 : Nat) : Int) by decide)
  gen_bad hw h0 h1 hr.1 hr.2 h
theorem cut_fm {a b c : Int} (h0 : 0 < b) (h1 : b ≤ c) : 0 ≤ a.fmod b ∧ a.fmod b < c := by
  have := fmod_range a h0
  omega
/-! the ends -/
section
variable {N w : Nat}
theorem tend1 {m : Int} (hne : m ≠ (N : Int)) (h : RdInv (codesI (tx (fx 2 N w))) m) (hN : N < 2 ^ w) : False :=
  hne (by rw [rd_end h, valS_fx hN])
theorem tend3 (hne : btS (N : Int) ((tx (fx 2 N w)).length : Int) ≠ tx (fx 2 N w)) (hN : N < 2 ^ w) : False := by
  rw [fx_len] at hne
  exact hne (btS_full hN)
theorem tend4 {v : Int} {want : Str} (hne : btS (N : Int) v ≠ want) (h : WtInv (cutS (tx (fx 2 N w)) 0) v want) (hl : ¬ (want.length : Int) < v) (hN : N < 2 ^ w) : False :=
  hne (by rw [wt_end h hl, wt_bt hN])
end
/-- what a call's cut hands on: an int with P, the frame and the ledger as they stood -/
def CutI (P : Int → Prop) (h₀ : Heap) (L : Addr) (m : Str → Option Value) (news : List (Addr × Obj)) (s : Shared) (v : Value) (s₂ : Shared) : Prop :=
  ∃ (x : Int) (t : Tok) (h : Heap) (tk : Nat), v = .int x t ∧ s₂ = { s with heap := h, toks := tk } ∧ P x ∧ Fr h₀ L h m ∧ News h₀ L h news
theorem cutI_end {P : Int → Prop} {h₀ h : Heap} {L : Addr} {m : Str → Option Value} {news news' : List (Addr × Obj)} {s : Shared} {x : Int} {t : Tok} {tk : Nat}
    (hP : P x) (F : Fr h₀ L h m) (N : News h₀ L h news') (hs : ∀ p ∈ news, p ∈ news') : CutI P h₀ L m news s (.int x t) { s with heap := h, toks := tk } :=
  ⟨x, t, h, tk, rfl, rfl, hP, F, fun p hp => N p (hs p hp)⟩
theorem cutI (P : Int → Prop) {M : Model} {A : Around} {E : Value → Shared → Prop} {Q : Value → Shared → Prop} {s : Shared} {h₀ : Heap} {L : Addr} {m : Str → Option Value} {news : List (Addr × Obj)} {cm : Sem Value}
    (_F : Fr h₀ L s.heap m) (_N : News h₀ L s.heap news)
    (hk : ∀ (x : Int) (t : Tok) (h : Heap) (tk : Nat), P x → Fr h₀ L h m → News h₀ L h news → Q (.int x t) { s with heap := h, toks := tk })
    (hc : wpAny M A cm (fun v s₂ => CutI P h₀ L m news s v s₂) E s) : wpAny M A cm Q E s := by
  refine wpAny_mono hc (fun v s₂ hq => ?_) fun _ _ h => h
  obtain ⟨x, t, h, tk, hv, hs, hP, F, N⟩ := hq
  subst hv
  subst hs
  exact hk x t h tk hP F N
/-- a call of one int that hands back a function of it -/
theorem cutF1 (g : Int → Int) {M : Model} {A : Around} {E : Value → Shared → Prop} {Q : Value → Shared → Prop} {s : Shared} {h₀ : Heap} {L : Addr} {m : Str → Option Value} {news : List (Addr × Obj)} {f : Addr} {x : Int} {tx : Tok}
    (F : Fr h₀ L s.heap m) (N : News h₀ L s.heap news)
    (hk : ∀ (t : Tok) (h : Heap) (tk : Nat), Fr h₀ L h m → News h₀ L h news → Q (.int (g x) t) { s with heap := h, toks := tk })
    (hc : wpAny M A (call (.ref f) [.int x tx]) (fun v s₂ => CutI (fun r => r = g x) h₀ L m news s v s₂) E s) : wpAny M A (call (.ref f) [.int x tx]) Q E s :=
  cutI (fun r => r = g x) F N (fun r t h tk e F' N' => by subst e; exact hk t h tk F' N') hc
theorem cutF2 (g : Int → Int) {M : Model} {A : Around} {E : Value → Shared → Prop} {Q : Value → Shared → Prop} {s : Shared} {h₀ : Heap} {L : Addr} {m : Str → Option Value} {news : List (Addr × Obj)} {f : Addr} {x : Int} {tx : Tok} {v₂ : Value}
    (F : Fr h₀ L s.heap m) (N : News h₀ L s.heap news)
    (hk : ∀ (t : Tok) (h : Heap) (tk : Nat), Fr h₀ L h m → News h₀ L h news → Q (.int (g x) t) { s with heap := h, toks := tk })
    (hc : wpAny M A (call (.ref f) [.int x tx, v₂]) (fun v s₂ => CutI (fun r => r = g x) h₀ L m news s v s₂) E s) : wpAny M A (call (.ref f) [.int x tx, v₂]) Q E s :=
  cutI (fun r => r = g x) F N (fun r t h tk e F' N' => by subst e; exact hk t h tk F' N') hc
/-- «if test: x op= e», joined: the new value is an if -/
theorem join_aug {M : Model} {A : Around} {E : Value → Shared → Prop} {s : Shared} {env : Env} {h₀ : Heap} {L : Addr} {m : Str → Option Value} {news : List (Addr × Obj)} {test : Expr} {x : Str} {p q pos : Pos} {o : Operator} {e : Expr} {c : Bool} {a v : Int} {t₀ : Tok} {Q : Flow → Shared → Prop} (F : Fr h₀ L s.heap m) (N : News h₀ L s.heap news)
    (hold : m x = some (.int a t₀))
    (hc : wpAny M A (isTrue test env (eval test env)) (fun k s₂ => KJoinC c h₀ L m news s k s₂) E s)
    (hv : KJoinB1 (c = true → ∀ s₂, KJoinAt h₀ L m news s s₂ → wpAny M A (exec (.AugAssign (.Name x p) o e q) env) (fun f s₃ => KJoinV x v h₀ L m news s f s₃) E s₂))
    (hk : KCtDone (∀ (t : Tok) (h : Heap) (tk : Nat), Fr h₀ L h (fun y => if y = x then some (.int (if c = true then v else a) t) else m y) → News h₀ L h news → Q .next { s with heap := h, toks := tk })) :
    wpAny M A (exec (.If test [.AugAssign (.Name x p) o e q] [] pos) env) Q E s := by
  refine kj_if_aug F N hold hc hv (fun r t s₃ hr hJ => ?_)
  obtain ⟨h, tk, e', F', N'⟩ := hJ.at_
  subst e'
  have er : r = if c = true then v else a := by
    rcases hr with ⟨h1, h2⟩ | ⟨h1, h2⟩
    · rw [if_pos h1, h2]
    · rw [h1, if_neg (by simp), h2]
  subst er
  exact hk t h tk F' N'
def JoinDone (P : Prop) : Prop := P
theorem join_aug' {M : Model} {A : Around} {E : Value → Shared → Prop} {s : Shared} {env : Env} {h₀ : Heap} {L : Addr} {m : Str → Option Value} {news : List (Addr × Obj)} {test : Expr} {x : Str} {p q pos : Pos} {o : Operator} {e : Expr} {c : Bool} {a v : Int} {t₀ : Tok} {Q : Flow → Shared → Prop} (F : Fr h₀ L s.heap m) (N : News h₀ L s.heap news)
    (hold : m x = some (.int a t₀))
    (hc : wpAny M A (isTrue test env (eval test env)) (fun k s₂ => KJoinC c h₀ L m news s k s₂) E s)
    (hv : KJoinB1 (c = true → ∀ s₂, KJoinAt h₀ L m news s s₂ → wpAny M A (exec (.AugAssign (.Name x p) o e q) env) (fun f s₃ => KJoinV x v h₀ L m news s f s₃) E s₂))
    (hk : JoinDone (∀ (t : Tok) (h : Heap) (tk : Nat), Fr h₀ L h (fun y => if y = x then some (.int (if c = true then v else a) t) else m y) → News h₀ L h news → Q .next { s with heap := h, toks := tk })) :
    wpAny M A (exec (.If test [.AugAssign (.Name x p) o e q] [] pos) env) Q E s := join_aug F N hold hc hv hk
/-- a call upon a value and an int W that hands back an int below 2 ^ W -/
theorem cutW {M : Model} {A : Around} {E : Value → Shared → Prop} {Q : Value → Shared → Prop} {s : Shared} {h₀ : Heap} {L : Addr} {m : Str → Option Value} {news : List (Addr × Obj)} {f : Addr} {a : Value} {W : Int} {tW : Tok}
    (F : Fr h₀ L s.heap m) (N : News h₀ L s.heap news)
    (hk : ∀ (x : Int) (t : Tok) (h : Heap) (tk : Nat), 0 ≤ x → x < 2 ^ W.toNat → Fr h₀ L h m → News h₀ L h news → Q (.int x t) { s with heap := h, toks := tk })
    (hc : wpAny M A (call (.ref f) [a, .int W tW]) (fun v s₂ => CutI (fun x => 0 ≤ x ∧ x < 2 ^ W.toNat) h₀ L m news s v s₂) E s) : wpAny M A (call (.ref f) [a, .int W tW]) Q E s :=
  cutI (fun x => 0 ≤ x ∧ x < 2 ^ W.toNat) F N (fun x t h tk hP F' N' => hk x t h tk hP.1 hP.2 F' N') hc
/-- what a call's cut hands on: a text with P -/
def CutS (P : Str → Prop) (h₀ : Heap) (L : Addr) (m : Str → Option Value) (news : List (Addr × Obj)) (s : Shared) (v : Value) (s₂ : Shared) : Prop :=
  ∃ (x : Str) (t : Tok) (h : Heap) (tk : Nat), v = .str x t ∧ s₂ = { s with heap := h, toks := tk } ∧ P x ∧ Fr h₀ L h m ∧ News h₀ L h news
theorem cutS_end {P : Str → Prop} {h₀ h : Heap} {L : Addr} {m : Str → Option Value} {news news' : List (Addr × Obj)} {s : Shared} {x : Str} {t : Tok} {tk : Nat}
    (hP : P x) (F : Fr h₀ L h m) (N : News h₀ L h news') (hs : ∀ p ∈ news, p ∈ news') : CutS P h₀ L m news s (.str x t) { s with heap := h, toks := tk } :=
  ⟨x, t, h, tk, rfl, rfl, hP, F, fun p hp => N p (hs p hp)⟩
theorem cutS_ (P : Str → Prop) {M : Model} {A : Around} {E : Value → Shared → Prop} {Q : Value → Shared → Prop} {s : Shared} {h₀ : Heap} {L : Addr} {m : Str → Option Value} {news : List (Addr × Obj)} {cm : Sem Value}
    (_F : Fr h₀ L s.heap m) (_N : News h₀ L s.heap news)
    (hk : ∀ (x : Str) (t : Tok) (h : Heap) (tk : Nat), P x → Fr h₀ L h m → News h₀ L h news → Q (.str x t) { s with heap := h, toks := tk })
    (hc : wpAny M A cm (fun v s₂ => CutS P h₀ L m news s v s₂) E s) : wpAny M A cm Q E s := by
  refine wpAny_mono hc (fun v s₂ hq => ?_) fun _ _ h => h
  obtain ⟨x, t, h, tk, hv, hs, hP, F, N⟩ := hq
  subst hv
  subst hs
  exact hk x t h tk hP F N
/-- a loop over range(0, b, d) that turns one text y: what holds behind i turns -/
def StS (y x : Str) (m₀ : Str → Option Value) (led : List (Addr × Obj)) (P : Nat → Str → Prop) (i : Nat) (m : Str → Option Value) (nx : List (Addr × Obj)) : Prop :=
  nx = led ∧ (∃ (t : Str) (k : Tok), m y = some (.str t k) ∧ P i t) ∧ ∀ z, z ≠ x → z ≠ y → m z = m₀ z
theorem fr_of {h₀ h : Heap} {L : Addr} {m m' : Str → Option Value} (F : Fr h₀ L h m) (e : ∀ z, m' z = m z) : Fr h₀ L h m' := by
  have : m' = m := funext e
  rw [this]; exact F
section
variable {prog : Program} {w : World} {A : Around} {E : Value → Shared → Prop} {s : Shared} {env : Env} {h₀ : Heap} {x : Str} {body : List Stmt} {Q : Flow → Shared → Prop}
theorem step_text (P : Nat → Str → Prop) (y : Str) {r : Addr} {b d : Int} {t₀ u₀ v₀ : Tok} {n : Nat} {m₀ : Str → Option Value} {led : List (Addr × Obj)} {c₀ : Str} {k₀ : Tok}
    (hh : A.handled = none) (hr : IsRange s.heap r 0 b d t₀ u₀ v₀) (hsmall : Builtin.Range.small 0 b d = true) (hn : Builtin.Range.rangeSize 0 b d = (n : Int)) (F : Fr h₀ env.locals s.heap m₀) (N : News h₀ env.locals s.heap led)
    (hxy : y ≠ x) (hy : m₀ y = some (.str c₀ k₀)) (hp : P 0 c₀)
    (turn : ∀ (i : Nat) (t : Str) (k kt : Tok) h tk own, i < n → OwnOff own (led.map (·.1)) → P i t →
      Fr h₀ env.locals h (fun z => if z = x then some (.int ((i : Int) * d) k) else if z = y then some (.str t kt) else m₀ z) → News h₀ env.locals h (led ++ own) →
      wpAny (model prog w) A (execs body env) (InvPostN h₀ env.locals (StS y x m₀ led P (i + 1)) own (led.map (·.1)) { s with heap := h, toks := tk } Q) E { s with heap := h, toks := tk })
    (done : ∀ (t : Str) (kt : Tok) (u : Str → Option Value) h tk, P n t → Fr h₀ env.locals h (fun z => if z = x then u z else if z = y then some (.str t kt) else m₀ z) → News h₀ env.locals h led → Q .next { s with heap := h, toks := tk }) :
    wpAny (model prog w) A (pyIter (.ref r)) (fun it s₂ => LoopAtV prog w A h₀ env x body Q E it s₂) E s := by
  refine wpAny_pyIter_range hr hsmall ?_
  have new : ∀ p ∈ led, p.1 ∉ [s.heap.objs.size] := fun p hp hI => absurd (Heap.lt_size (N p hp).1) ((List.mem_singleton.mp hI) ▸ Nat.lt_irrefl _)
  have W := (Walks.range (prog := prog) (w := w) hh s.heap.objs.size 0 d n).bound
  refine loop_invN (StS y x m₀ led P) W ?_ ?_ new new (by show IsRangeIter _ _ _ _ _; rw [hn]; simpa using Heap.get?_push_size _ rfl) (F.push _) (fun p hp => ⟨Heap.get?_push_of_some _ (N p hp).1, (N p hp).2⟩) ⟨rfl, ⟨c₀, k₀, hy, hp⟩, fun _ _ _ => rfl⟩ ?_ ?_
  · exact fun hm => absurd F.ns.lt ((List.mem_singleton.mp hm) ▸ Nat.lt_irrefl _)
  · exact fun b' hb => (List.mem_singleton.mp hb) ▸ next_is_new F
  · rintro i v m₁ nx h tk own hi ⟨_, t, rfl⟩ _ hoff ⟨rfl, ⟨c, kc, hc, hP⟩, hrest⟩ F₁ N₁
    rw [Int.zero_add] at F₁
    refine turn i c t kc h tk own hi hoff hP (fr_of F₁ fun z => ?_) N₁
    by_cases hz : z = x
    · rw [if_pos hz, if_pos hz]
    · rw [if_neg hz, if_neg hz]
      by_cases hzy : z = y
      · rw [if_pos hzy, hzy, hc]
      · rw [if_neg hzy, hrest z hz hzy]
  · rintro m₁ nx h tk ⟨rfl, ⟨c, kc, hc, hP⟩, hrest⟩ F₁ N₁
    refine done c kc m₁ h tk hP (fr_of F₁ fun z => ?_) N₁
    by_cases hz : z = x
    · rw [if_pos hz]
    · rw [if_neg hz]
      by_cases hzy : z = y
      · rw [if_pos hzy, hzy, hc]
      · rw [if_neg hzy, hrest z hz hzy]
end
def cell0 (ns : List Int) (i : Int) : Int := if i < ns.length then ns.getD i.toNat 0 else 0
section
variable {prog : Program} {w : World} {A : Around} {E : Value → Shared → Prop} {s : Shared} {value slice : Expr} {x : Str} {t : Tok} {Q : Value → Shared → Prop}
/-- an item of a text at a place in bounds -/
theorem it_at {i : Int} {u : Tok} (h1 : 0 ≤ i) (h2 : i < x.length) (h3 : x.length ≤ 1000)
    (h : Q (.str (tx [(codes x).getD i.toNat 0]) s.toks) { s with toks := s.toks + 1 })
    (hs : subscripted slice false (.str x t) (.int i u) = operate [.str x t, .int i u] (getItem (.str x t) (.int i u)) := by with_unfolding_all rfl)
    (ht : ∀ r, letTemporaryGo value (.str x t) r = pure () := by intro _; with_unfolding_all rfl) :
    wpAny (model prog w) A (subscriptTail value slice (.str x t) (.int i u)) Q E s := by
  refine item_str (fitsSsize_of (N := 9223372036854775808) (by omega) (by omega) (Int.le_refl _)) (by omega) h2 (fun _ => ?_) hs ht
  rw [item_code h1 h2]
  exact h
theorem it_bin {n : Int} {u : Tok} (h0 : 0 ≤ n)
    (h : Q (.str (tx [sgn (n.toNat % 2)]) s.toks) { s with toks := s.toks + 1 })
    (hs : subscripted slice false (.str (Str.ofString "01") t) (.int (Builtin.bitAnd n 1) u) = operate [.str (Str.ofString "01") t, .int (Builtin.bitAnd n 1) u] (getItem (.str (Str.ofString "01") t) (.int (Builtin.bitAnd n 1) u)) := by with_unfolding_all rfl)
    (ht : ∀ r, letTemporaryGo value (.str (Str.ofString "01") t) r = pure () := by intro _; with_unfolding_all rfl) :
    wpAny (model prog w) A (subscriptTail value slice (.str (Str.ofString "01") t) (.int (Builtin.bitAnd n 1) u)) Q E s := by
  have e : Builtin.bitAnd n 1 = ((n.toNat % 2 : Nat) : Int) := and_mask h0 1
  have hl : (Str.ofString "01").length = 2 := rfl
  refine item_str (fitsSsize_of (N := 9223372036854775808) (by omega) (by omega) (Int.le_refl _)) (by omega) (by omega) (fun _ => ?_) hs ht
  rw [e, item_bin (by omega) (by omega), Int.toNat_natCast]
  exact h
theorem it_hex {n : Int} {u : Tok} (h0 : 0 ≤ n)
    (h : Q (.str (tx [sgn (n.toNat % 16)]) s.toks) { s with toks := s.toks + 1 })
    (hs : subscripted slice false (.str (Str.ofString "0123456789abcdef") t) (.int (Builtin.bitAnd n 15) u) = operate [.str (Str.ofString "0123456789abcdef") t, .int (Builtin.bitAnd n 15) u] (getItem (.str (Str.ofString "0123456789abcdef") t) (.int (Builtin.bitAnd n 15) u)) := by with_unfolding_all rfl)
    (ht : ∀ r, letTemporaryGo value (.str (Str.ofString "0123456789abcdef") t) r = pure () := by intro _; with_unfolding_all rfl) :
    wpAny (model prog w) A (subscriptTail value slice (.str (Str.ofString "0123456789abcdef") t) (.int (Builtin.bitAnd n 15) u)) Q E s := by
  have e : Builtin.bitAnd n 15 = ((n.toNat % 16 : Nat) : Int) := and_mask h0 4
  have hl : (Str.ofString "0123456789abcdef").length = 16 := rfl
  refine item_str (fitsSsize_of (N := 9223372036854775808) (by omega) (by omega) (Int.le_refl _)) (by omega) (by omega) (fun _ => ?_) hs ht
  rw [e, item_hex (by omega) (by omega), Int.toNat_natCast]
  exact h
theorem it_oct {n : Int} {u : Tok} (h0 : 0 ≤ n)
    (h : Q (.str (tx [sgn (n.toNat % 8)]) s.toks) { s with toks := s.toks + 1 })
    (hs : subscripted slice false (.str (Str.ofString "01234567") t) (.int (Builtin.bitAnd n 7) u) = operate [.str (Str.ofString "01234567") t, .int (Builtin.bitAnd n 7) u] (getItem (.str (Str.ofString "01234567") t) (.int (Builtin.bitAnd n 7) u)) := by with_unfolding_all rfl)
    (ht : ∀ r, letTemporaryGo value (.str (Str.ofString "01234567") t) r = pure () := by intro _; with_unfolding_all rfl) :
    wpAny (model prog w) A (subscriptTail value slice (.str (Str.ofString "01234567") t) (.int (Builtin.bitAnd n 7) u)) Q E s := by
  have e : Builtin.bitAnd n 7 = ((n.toNat % 8 : Nat) : Int) := and_mask h0 3
  have hl : (Str.ofString "01234567").length = 8 := rfl
  refine item_str (fitsSsize_of (N := 9223372036854775808) (by omega) (by omega) (Int.le_refl _)) (by omega) (by omega) (fun _ => ?_) hs ht
  rw [e, item_oct (by omega) (by omega), Int.toNat_natCast]
  exact h
/-- a sign at n % b, b up to 16, of the sixteen signs -/
theorem it_sgn {n b : Int} {u : Tok} (hb : 2 ≤ b) (hb2 : b ≤ 16)
    (h : Q (.str (tx [sgn (n.fmod b).toNat]) s.toks) { s with toks := s.toks + 1 })
    (hs : subscripted slice false (.str (Str.ofString "0123456789abcdef") t) (.int (n.fmod b) u) = operate [.str (Str.ofString "0123456789abcdef") t, .int (n.fmod b) u] (getItem (.str (Str.ofString "0123456789abcdef") t) (.int (n.fmod b) u)) := by with_unfolding_all rfl)
    (ht : ∀ r, letTemporaryGo value (.str (Str.ofString "0123456789abcdef") t) r = pure () := by intro _; with_unfolding_all rfl) :
    wpAny (model prog w) A (subscriptTail value slice (.str (Str.ofString "0123456789abcdef") t) (.int (n.fmod b) u)) Q E s := by
  have hr := fmod_range n (show 0 < b by omega)
  have hl : (Str.ofString "0123456789abcdef").length = 16 := rfl
  refine item_str (fitsSsize_of (N := 9223372036854775808) (by omega) (by omega) (Int.le_refl _)) (by omega) (by omega) (fun _ => ?_) hs ht
  rw [item_hex hr.1 (by omega)]
  exact h
end
theorem dgs {b : Nat} {n0 : Int} (h0 : 0 ≤ n0) (h : n0 < 18446744073709551616) : DgInv b n0 n0 (Str.ofString "") ∧ (Str.ofString "").length ≤ 64 := ⟨dg_start h0 h, Nat.zero_le _⟩
theorem dgt {b : Nat} (hb : 2 ≤ b) {n0 n n' : Int} {text c : Str} (h : DgInv b n0 n text) (hn : n > 0) (hc : c = tx [sgn (n.toNat % b)]) (hn' : n' = ((n.toNat / b : Nat) : Int)) : DgInv b n0 n' (c ++ text) ∧ (c ++ text).length ≤ 64 :=
  have h2 := dg_turn hb h hn hc hn'
  ⟨h2, h2.2.2.2.2⟩
theorem dgt2 {n0 n : Int} {text : Str} (h : DgInv 2 n0 n text) (hn : n > 0) : DgInv 2 n0 (n.fdiv (2 ^ (1 : Int).toNat)) (tx [sgn (n.toNat % 2)] ++ text) ∧ (tx [sgn (n.toNat % 2)] ++ text).length ≤ 64 :=
  dgt (by decide) h hn rfl (shr_div (by omega) 1)
theorem dgt16 {n0 n : Int} {text : Str} (h : DgInv 16 n0 n text) (hn : n > 0) : DgInv 16 n0 (n.fdiv (2 ^ (4 : Int).toNat)) (tx [sgn (n.toNat % 16)] ++ text) ∧ (tx [sgn (n.toNat % 16)] ++ text).length ≤ 64 :=
  dgt (by decide) h hn rfl (shr_div (by omega) 4)
theorem dgt8 {n0 n : Int} {text : Str} (h : DgInv 8 n0 n text) (hn : n > 0) : DgInv 8 n0 (n.fdiv (2 ^ (3 : Int).toNat)) (tx [sgn (n.toNat % 8)] ++ text) ∧ (tx [sgn (n.toNat % 8)] ++ text).length ≤ 64 :=
  dgt (by decide) h hn rfl (shr_div (by omega) 3)
theorem sh_less {n : Int} (k : Nat) (hk : 1 ≤ k) (h : n > 0) : (n.fdiv (2 ^ k)).toNat < n.toNat := by
  rw [shr_div (by omega), Int.toNat_natCast]
  exact Nat.div_lt_self (by omega) (by have := Nat.pow_le_pow_right (n := 2) (by decide) hk; omega)
theorem sh1 {n : Int} (h : n > 0) : (n.fdiv (2 ^ (1 : Int).toNat)).toNat < n.toNat := sh_less 1 (by decide) h
theorem sh4 {n : Int} (h : n > 0) : (n.fdiv (2 ^ (4 : Int).toNat)).toNat < n.toNat := sh_less 4 (by decide) h
theorem sh3 {n : Int} (h : n > 0) : (n.fdiv (2 ^ (3 : Int).toNat)).toNat < n.toNat := sh_less 3 (by decide) h
/-- the digits by division -/
def DgT (b n0 : Int) (t0 : Str) (n : Int) (text : Str) : Prop := (b = 16 ∨ b = 8) ∧ t0.length = 1 ∧ ∃ u, text = u ++ t0 ∧ DgInv b.toNat n0 n u
theorem app_len (s t : Str) : (s ++ t).length = s.length + t.length := by rw [← codes_length, codes_append, List.length_append, codes_length, codes_length]
theorem dts {b n0 : Int} {t0 : Str} (hb : b = 16 ∨ b = 8) (ht : t0.length = 1) (h0 : 0 ≤ n0) (h : n0 < 18446744073709551616) : DgT b n0 t0 n0 t0 ∧ t0.length ≤ 65 := by
  refine ⟨⟨hb, ht, Str.ofString "", ?_, dg_start h0 h⟩, by omega⟩
  have e : Str.ofString "" = tx [] := rfl
  rw [e, ← tx_codes t0, tx_append]; rfl
theorem dtt {b n0 n : Int} {t0 text : Str} (h : DgT b n0 t0 n text) (hn : n > 0) : DgT b n0 t0 (n.fdiv b) (tx [sgn (n.fmod b).toNat] ++ text) ∧ (tx [sgn (n.fmod b).toNat] ++ text).length ≤ 65 := by
  obtain ⟨hb, ht, u, e, hu⟩ := h
  have hb2 : 2 ≤ b.toNat := by omega
  have eb : (b.toNat : Int) = b := by omega
  have e1 : n.fdiv b = ((n.toNat / b.toNat : Nat) : Int) := by rw [← fdiv_nat (by omega), eb]
  have e2 : (n.fmod b).toNat = n.toNat % b.toNat := by
    have := fmod_natb (n := n) (by omega) b.toNat
    rw [eb] at this
    rw [this, Int.toNat_natCast]
  rw [e2]
  have h2 := dg_turn hb2 hu hn rfl e1
  subst e
  have e3 : tx [sgn (n.toNat % b.toNat)] ++ (u ++ t0) = (tx [sgn (n.toNat % b.toNat)] ++ u) ++ t0 := (Str.append_assoc _ _ _).symm
  rw [e3]
  refine ⟨⟨hb, ht, _, rfl, h2⟩, ?_⟩
  have := h2.2.2.2.2
  rw [app_len]; omega
theorem dt_less {b n : Int} (hb : b = 16 ∨ b = 8) (h : n > 0) : (n.fdiv b).toNat < n.toNat := by
  rw [Int.fdiv_eq_ediv_of_nonneg _ (by omega)]
  rcases hb with rfl | rfl <;> omega
theorem dte {b N n : Int} {text : Str} (hN : 0 ≤ N) (h : DgT b (N.fdiv b) (tx [sgn (N.fmod b).toNat]) n text) (hn : ¬ n > 0) : text = dgS N b := by
  obtain ⟨hb, ht, u, e, hu⟩ := h
  have hb2 : 2 ≤ b.toNat := by omega
  have eb : (b.toNat : Int) = b := by omega
  have e1 : N.fdiv b = ((N.toNat / b.toNat : Nat) : Int) := by rw [← fdiv_nat (by omega), eb]
  have e2 : (N.fmod b).toNat = N.toNat % b.toNat := by
    have := fmod_natb (n := N) (by omega) b.toNat
    rw [eb] at this
    rw [this, Int.toNat_natCast]
  rw [e, dg_end hu hn, e1, e2, Int.toNat_natCast, tx_append]
  unfold dgS
  rw [hid_eq]
  by_cases h0 : N = 0
  · subst h0
    rw [if_pos rfl]
    rcases hb with rfl | rfl <;> rfl
  · rw [if_neg h0, dtx_pos hb2 (show N.toNat ≠ 0 by omega)]
theorem mks (m0 : Int) : (Str.ofString "").length = ([] : List Int).length ∧ MkInv m0 ([] : List Int).length (Str.ofString "") m0 := ⟨rfl, mk_start m0⟩
theorem mkt {m0 m W : Int} {pre : List Int} {s : Str} {i : Int} (hl : s.length = pre.length) (h : MkInv m0 pre.length s m) (hk : pre.length < (W - 0).toNat) (hW : W ≤ 64) :
    (tx [sgn (m.fmod 2).toNat] ++ s).length = (pre ++ [i]).length ∧ MkInv m0 (pre ++ [i]).length (tx [sgn (m.fmod 2).toNat] ++ s) (m.fdiv 2) := by
  have h2 := mk_turn h (show pre.length < 64 by omega)
  have hr := fmod_range m (show (0 : Int) < 2 by decide)
  rw [item_hex hr.1 (by omega)] at h2
  refine ⟨?_, ?_⟩
  · rw [app_len, tx_length, hl, List.length_append]; simp; omega
  · rw [List.length_append]; exact h2
theorem gen_w6 {x : Int} {k : Nat} {R : Int → Prop} (h : ∀ W : Int, 1 ≤ W → W ≤ 64 → R W) : R (([x.fmod 64, x.fmod 6, 63] : List Int).getD k 0 + 1) := by
  have h1 := fmod_range x (show (0 : Int) < 64 by decide)
  have h2 := fmod_range x (show (0 : Int) < 6 by decide)
  match k with
  | 0 => exact h _ (by show 1 ≤ x.fmod 64 + 1; omega) (by show x.fmod 64 + 1 ≤ 64; omega)
  | 1 => exact h _ (by show 1 ≤ x.fmod 6 + 1; omega) (by show x.fmod 6 + 1 ≤ 64; omega)
  | 2 => exact h _ (by show (1 : Int) ≤ 63 + 1; decide) (by show (63 : Int) + 1 ≤ 64; decide)
  | k + 3 => exact h _ (by show (1 : Int) ≤ 0 + 1; decide) (by show (0 : Int) + 1 ≤ 64; decide)
theorem gen_m6 {a b c d e f g : Int} {k : Nat} {R : Int → Prop} (h : ∀ M : Int, R M) : R (([0, a, b, c, d, e, f, g] : List Int).getD k 0) := h _
theorem mke {m0 m W : Int} {s : Str} {k : Nat} (h : MkInv m0 k s m) (hk : k = (W - 0).toNat) (h1 : 1 ≤ W) (h2 : W ≤ 64) : Bin s := mk_end h (by omega) (by omega)
theorem vls (s : Str) : VlInv s ([] : List Int).length 0 1 := vl_start s
theorem vle {s : Str} {total weight : Int} {k : Nat} (h : VlInv s k total weight) (hk : k = s.length) : total = valS s := by
  subst hk; exact vl_end h
theorem vlt1 {s : Str} {pre : List Int} {total weight i : Int} {c : Nat} (h : VlInv s pre.length total weight) (hi : i = (s.length : Int) - 1 - (pre.length : Int)) (hk : pre.length < ((s.length : Int) - 1 - -1).toNat) (hc : (codes s).getD i.toNat 0 = 49) : VlInv s (pre ++ [i]).length (total + weight) (weight * 2) := by
  have h2 := vl_turn h (show pre.length < s.length by omega)
  have e : i.toNat = s.length - 1 - pre.length := by omega
  rw [← e, if_pos hc] at h2
  rw [List.length_append]; exact h2
theorem vlt0 {s : Str} {pre : List Int} {total weight i : Int} (h : VlInv s pre.length total weight) (hi : i = (s.length : Int) - 1 - (pre.length : Int)) (hk : pre.length < ((s.length : Int) - 1 - -1).toNat) (hc : ¬ (codes s).getD i.toNat 0 = 49) : VlInv s (pre ++ [i]).length total (weight * 2) := by
  have h2 := vl_turn h (show pre.length < s.length by omega)
  have e : i.toNat = s.length - 1 - pre.length := by omega
  rw [← e, if_neg hc] at h2
  rw [List.length_append]; exact h2
theorem one_true {c : Nat} (h : (tx [c] == Str.ofString "1") = true) : c = 49 := by
  have e : Str.ofString "1" = tx [49] := rfl
  rw [e] at h
  exact one_eq.mp (beq_iff_eq.mp h)
theorem one_false {c : Nat} (h : (tx [c] == Str.ofString "1") = false) : ¬ c = 49 := by
  rintro rfl
  have e : Str.ofString "1" = tx [49] := rfl
  rw [e] at h
  simp at h
theorem zero_true {c : Nat} (h : (tx [c] == Str.ofString "0") = true) : c = 48 := by
  have e : Str.ofString "0" = tx [48] := rfl
  rw [e] at h
  exact one_eq.mp (beq_iff_eq.mp h)
theorem zero_false {c : Nat} (h : (tx [c] == Str.ofString "0") = false) : ¬ c = 48 := by
  rintro rfl
  have e : Str.ofString "0" = tx [48] := rfl
  rw [e] at h
  simp at h
theorem vlt1' {s : Str} {pre : List Int} {total weight i : Int} (hc : (tx [(codes s).getD i.toNat 0] == Str.ofString "1") = true) (h : VlInv s pre.length total weight) (hi : i = (s.length : Int) - 1 - (pre.length : Int)) (hk : pre.length < ((s.length : Int) - 1 - -1).toNat) : VlInv s (pre ++ [i]).length (total + weight) (weight * 2) := vlt1 (c := 0) h hi hk (one_true hc)
theorem vlt0' {s : Str} {pre : List Int} {total weight i : Int} (hc : (tx [(codes s).getD i.toNat 0] == Str.ofString "1") = false) (h : VlInv s pre.length total weight) (hi : i = (s.length : Int) - 1 - (pre.length : Int)) (hk : pre.length < ((s.length : Int) - 1 - -1).toNat) : VlInv s (pre ++ [i]).length total (weight * 2) := vlt0 h hi hk (one_false hc)
theorem pre_len' {x : Str} {c : Int} {pre post : List Int} (h : KStt.codes x = pre ++ c :: post) (hx : x.length ≤ 64) : pre.length ≤ 64 := Nat.le_of_lt (pre_len h hx)
theorem bin_out {s : Str} (h : Bin s) : ∃ N w : Nat, 1 ≤ w ∧ w ≤ 64 ∧ N < 2 ^ w ∧ s = tx (fx 2 N w) := h
theorem w64 {N w : Nat} (hw : w ≤ 64) (h : N < 2 ^ w) : 0 ≤ (N : Int) ∧ (N : Int) < 18446744073709551616 := by
  have := Nat.pow_le_pow_right (n := 2) (by decide) hw
  have e : (2 : Nat) ^ 64 = 18446744073709551616 := by decide
  omega
theorem gen_v {N w : Nat} {R : Int → Prop} (h : N < 2 ^ w) (hR : R (N : Int)) : R (valS (tx (fx 2 N w))) := by rw [valS_fx h]; exact hR
theorem bt_end {N W n : Int} {text : Str} (h : DgInv 2 N n text) (hn : ¬ n > 0) : Txt.mul (Str.ofString "0") (W - (text.length : Int)) ++ text = btS N W := by
  have e : Str.ofString "0" = tx [48] := rfl
  rw [dg_end h hn, e, tx_mul, tx_length, tx_append]; rfl
theorem dx_end {N n : Int} {text : Str} {b : Int} (h0 : ¬ N = 0) (h : DgInv b.toNat N n text) (hn : ¬ n > 0) : text = dgS N b := by
  rw [dg_end h hn]
  unfold dgS
  rw [hid_eq]
  rw [if_neg h0]
theorem dz_end {N : Int} {b : Int} (h0 : N = 0) : Str.ofString "0" = dgS N b := by
  unfold dgS
  rw [hid_eq]
  rw [if_pos h0]; rfl
theorem zlen : (Str.ofString "0").length = 1 := rfl
theorem cts (s : Str) {least : Int} (h : 0 ≤ least) : CtInv s least 0 := ct_start s h
theorem ctt {s : Str} {least i : Int} (hc : (tx [(codes s).getD i.toNat 0] == Str.ofString "0") = true) (h : CtInv s least i) (h1 : i < (s.length : Int) - least) : CtInv s least (i + 1) := ct_turn h h1 (zero_true hc)
theorem cte1 {s : Str} {least i : Int} (h : CtInv s least i) (h1 : ¬ i < (s.length : Int) - least) (hl : i ≤ s.length) : Txt.slice s (some i) none = cutS s least := by
  have h2 := tx_from (l := codes s) (i := i) h.2.1 (by rw [codes_length]; exact hl)
  rw [tx_codes] at h2
  rw [h2]
  exact ct_end1 h h1
theorem cte2 {s : Str} {least i : Int} (hc : (tx [(codes s).getD i.toNat 0] == Str.ofString "0") = false) (h : CtInv s least i) (h1 : i < (s.length : Int) - least) : Txt.slice s (some i) none = cutS s least := by
  have h2 := tx_from (l := codes s) (i := i) h.2.1 (by rw [codes_length]; have := h.1; omega)
  rw [tx_codes] at h2
  rw [h2]
  exact ct_end2 h h1 (zero_false hc)
theorem ct_le {s : Str} {least i : Int} (h : CtInv s least i) : 0 ≤ i ∧ i ≤ s.length := by
  obtain ⟨a, b, c, d⟩ := h
  have hd := lead_le (codes s)
  rw [codes_length] at hd
  omega
theorem cts' (s : Str) {least : Int} (h : 0 ≤ least) : CtInv s least 0 ∧ (0 : Int) ≤ 0 ∧ (0 : Int) ≤ (s.length : Int) := ⟨ct_start s h, Int.le_refl _, by omega⟩
theorem ctt' {s : Str} {least i : Int} (hc : (tx [(codes s).getD i.toNat 0] == Str.ofString "0") = true) (h : CtInv s least i) (h1 : i < (s.length : Int) - least) : CtInv s least (i + 1) ∧ 0 ≤ i + 1 ∧ i + 1 ≤ (s.length : Int) :=
  have h2 := ctt hc h h1
  ⟨h2, (ct_le h2).1, (ct_le h2).2⟩
theorem cutS_len (s : Str) (k : Int) : (cutS s k).length ≤ s.length := by
  unfold cutS cut
  rw [tx_length, List.length_drop, codes_length]; omega
theorem gen_v6 {x n : Int} {k : Nat} {R : Int → Prop} (h0 : 0 ≤ n) (hn : n ≤ 64) (h : ∀ V : Int, 0 ≤ V → V ≤ 65 → R V) : R (([x.fmod 65, 0, n, x.fmod (n + 1)] : List Int).getD k 0) := by
  have h1 := fmod_range x (show (0 : Int) < 65 by decide)
  have h2 := fmod_range x (show (0 : Int) < n + 1 by omega)
  match k with
  | 0 => exact h _ (by show 0 ≤ x.fmod 65; omega) (by show x.fmod 65 ≤ 65; omega)
  | 1 => exact h _ (Int.le_refl _) (by show (0 : Int) ≤ 65; decide)
  | 2 => exact h _ h0 (by show n ≤ 65; omega)
  | 3 => exact h _ h2.1 (by show x.fmod (n + 1) ≤ 65; omega)
  | k + 4 => exact h _ (Int.le_refl _) (by show (0 : Int) ≤ 65; decide)
theorem wts {w0 : Str} {v : Int} (h : w0.length ≤ 64) : WtInv w0 v w0 ∧ w0.length ≤ 130 := ⟨wt_start w0 v, by omega⟩
theorem wtt {w0 w : Str} {v : Int} (h : WtInv w0 v w) (hl : (w.length : Int) < v) (hv : v ≤ 65) : WtInv w0 v (Str.ofString "0" ++ w) ∧ (Str.ofString "0" ++ w).length ≤ 130 := by
  have e : Str.ofString "0" = tx [48] := rfl
  rw [e]
  refine ⟨wt_turn h hl, ?_⟩
  rw [len_one]; omega
theorem wt_less {w : Str} {v : Int} (hl : (w.length : Int) < v) : (v - ((Str.ofString "0" ++ w).length : Int)).toNat < (v - (w.length : Int)).toNat := by
  have e : Str.ofString "0" = tx [48] := rfl
  rw [e, len_one]; omega
theorem pds {N w : Nat} {size : Int} (hs : size = 3 ∨ size = 4) (h1 : 1 ≤ w) (h2 : w ≤ 64) (h : N < 2 ^ w) : PadInv (tx (fx 2 N w)) (tx (fx 2 N w)) size.toNat ∧ (tx (fx 2 N w)).length ≤ 67 := by
  refine ⟨pad_start (by omega) h1 h2 h, ?_⟩
  rw [fx_len]; omega
theorem pdt {s0 s : Str} {size : Int} (hs : size = 3 ∨ size = 4) (h : PadInv s0 s size.toNat) (hm : ((s.length : Int)).fmod size > 0) : PadInv s0 (Str.ofString "0" ++ s) size.toNat ∧ (Str.ofString "0" ++ s).length ≤ 67 := by
  have e : Str.ofString "0" = tx [48] := rfl
  have e2 : ((size.toNat : Nat) : Int) = size := by omega
  rw [e]
  exact pad_turn (by omega) h (by rw [e2]; exact hm)
theorem pd_less {s : Str} {size : Int} (hs : size = 3 ∨ size = 4) (hm : ((s.length : Int)).fmod size > 0) : ((-((Str.ofString "0" ++ s).length : Int)).fmod size).toNat < ((-(s.length : Int)).fmod size).toNat := by
  have e : Str.ofString "0" = tx [48] := rfl
  have e2 : ((size.toNat : Nat) : Int) = size := by omega
  have := pad_less (s := s) (size := size.toNat) (by omega) (by rw [e2]; exact hm)
  rw [e2] at this
  rw [e]; exact this
theorem s34 : ((3 : Int) = 3 ∨ (3 : Int) = 4) ∧ ((4 : Int) = 3 ∨ (4 : Int) = 4) := ⟨Or.inl rfl, Or.inr rfl⟩
theorem dts' {b N : Int} {c : Nat} (h : (0 ≤ N ∧ N < 18446744073709551616) ∧ (b = 16 ∨ b = 8)) : DgT b (N.fdiv b) (tx [c]) (N.fdiv b) (tx [c]) ∧ (tx [c]).length ≤ 65 := by
  obtain ⟨⟨h0, h1⟩, hb⟩ := h
  have e : N.fdiv b = N / b := Int.fdiv_eq_ediv_of_nonneg _ (by omega)
  refine dts hb rfl ?_ ?_
  · rw [e]; rcases hb with rfl | rfl <;> omega
  · rw [e]; rcases hb with rfl | rfl <;> omega
theorem dte' {b N n : Int} {text : Str} (hN : (0 ≤ N ∧ N < 18446744073709551616) ∧ (b = 16 ∨ b = 8)) (h : DgT b (N.fdiv b) (tx [sgn (N.fmod b).toNat]) n text) (hn : ¬ n > 0) : text = dgS N b := dte hN.1.1 h hn
theorem dt_less' {b N n : Int} (hb : (0 ≤ N ∧ N < 18446744073709551616) ∧ (b = 16 ∨ b = 8)) (h : n > 0) : (n.fdiv b).toNat < n.toNat := dt_less hb.2 h
theorem rd_empty {N w : Nat} (h : (tx (fx 2 N w) == Str.ofString "") = true) (hw : 1 ≤ w) : False := by
  have e := congrArg Str.length (beq_iff_eq.mp h)
  rw [fx_len] at e
  have : (Str.ofString "").length = 0 := rfl
  omega
theorem rd_no {N w c : Nat} {pre post : List Int} (h : KStt.codes (tx (fx 2 N w)) = pre ++ (c : Int) :: post) (h0 : ¬ c = 48) (h1 : ¬ c = 49) : False := by
  rcases rd_good h with e | e
  · exact h0 e
  · exact h1 e
theorem ne_true {c d : Nat} (h : (tx [c] != tx [d]) = true) : ¬ c = d := by
  rintro rfl
  simp at h
theorem ne_false {c d : Nat} (h : (tx [c] != tx [d]) = false) : c = d := by
  have : tx [c] = tx [d] := by simpa using h
  exact one_eq.mp this
theorem rd_no' {N w c : Nat} {pre post : List Int} (h : KStt.codes (tx (fx 2 N w)) = pre ++ (c : Int) :: post) (h0 : (({ cps := #[c] } : Str) != Str.ofString "0") = true) (h1 : (({ cps := #[c] } : Str) != Str.ofString "1") = true) : False :=
  rd_no h (ne_true (d := 48) h0) (ne_true (d := 49) h1)
theorem rdt1 {c : Nat} {pre : List Int} {n : Int} (hc : (({ cps := #[c] } : Str) == Str.ofString "1") = true) (h : RdInv pre n) : RdInv (pre ++ [(c : Int)]) (Builtin.bitOr (n * 2 ^ (1 : Int).toNat) 1) := by
  have := one_true hc
  subst this
  exact rd_one h
theorem rdt0 {c : Nat} {pre : List Int} {n : Int} (hc : (({ cps := #[c] } : Str) != Str.ofString "0") = false) (h : RdInv pre n) : RdInv (pre ++ [(c : Int)]) (n * 2 ^ (1 : Int).toNat) := by
  have := ne_false (d := 48) hc
  subst this
  exact rd_zero h
theorem rdtx {c : Nat} {P : Prop} (hc : (({ cps := #[c] } : Str) != Str.ofString "1") = false) (h : (({ cps := #[c] } : Str) == Str.ofString "1") = false) : P :=
  absurd (ne_false (d := 49) hc) (one_false h)
/-- a written table of texts holds the sign of each d under its binary text -/
def tabOk (D : List (Str × KTD.Dat)) (b sz : Nat) : Bool := (List.range b).all fun d =>
  match KTD.datumAt (tx (fx 2 d sz)) D with
  | some (.flat (.str x)) => x == tx [sgn d]
  | _ => false
theorem tab_at {D : List (Str × KTD.Dat)} {b sz d : Nat} (h : tabOk D b sz = true) (hd : d < b) : KTD.datumAt (tx (fx 2 d sz)) D = some (.flat (.str (tx [sgn d]))) := by
  have h2 := List.all_eq_true.mp h d (List.mem_range.mpr hd)
  revert h2
  cases e : KTD.datumAt (tx (fx 2 d sz)) D with
  | none => intro h2; simp at h2
  | some q =>
    cases q with
    | flat p =>
      cases p with
      | str x => intro h2; rw [beq_iff_eq.mp h2]
      | _ => intro h2; simp at h2
    | _ => intro h2; simp at h2
section
variable {prog : Program} {w : World} {A : Around} {E : Value → Shared → Prop} {s : Shared} {h₀ : Heap} {a : Addr} {D : List (Str × KTD.Dat)} {tk : Tok} {value slice : Expr} {Q : Value → Shared → Prop}
theorem eachL_of {k : Str} {P : Value → Prop} {x : Str} : ∀ {D : List (Str × KTD.Dat)}, KTD.datumAt k D = some (.flat (.str x)) → (∀ t, P (.str x t)) → KTD.EachL h₀ k P D
  | [], h, _ => trivial
  | (y, d) :: D, h, hP => by
    have h' : (if decide (k = y) = true then some d else KTD.datumAt k D) = some (.flat (.str x)) := h
    by_cases hx : k = y
    · rw [if_pos (decide_eq_true hx)] at h'
      cases h'
      exact KTD.eachL_hit hx (KTD.opened_str hP)
    · rw [if_neg (by simp [hx])] at h'
      exact KTD.eachL_miss hx (eachL_of h' hP)
theorem in_of {k : Str} {x : KTD.Dat} {D : List (Str × KTD.Dat)} (h : KTD.datumAt k D = some x) : KTD.inKeys k D = true := by
  rw [← KTD.isSome_datumAt, h]; rfl
theorem it_four {N q j : Nat} (hj : j < q) (hD : tabOk D 16 4 = true) (T : KTD.Here h₀ s.heap a D)
    (h : ∀ t, Q (.str (tx [sgn (N / 16 ^ (q - 1 - j) % 16)]) t) { s with toks := s.toks + 1 })
    (hs : subscripted slice false (.ref a) (.str (Txt.slice (tx (fx 2 N (4 * q))) (some ((j : Int) * 4)) (some ((j : Int) * 4 + 4))) tk) = operate [.ref a, .str (Txt.slice (tx (fx 2 N (4 * q))) (some ((j : Int) * 4)) (some ((j : Int) * 4 + 4))) tk] (getItem (.ref a) (.str (Txt.slice (tx (fx 2 N (4 * q))) (some ((j : Int) * 4)) (some ((j : Int) * 4 + 4))) tk)) := by with_unfolding_all rfl) (hg : ∀ r, letTemporaryGo value (.ref a) r = pure () := by intro _; with_unfolding_all rfl) :
    wpAny (model prog w) A (subscriptTail value slice (.ref a) (.str (Txt.slice (tx (fx 2 N (4 * q))) (some ((j : Int) * 4)) (some ((j : Int) * 4 + 4))) tk)) Q E s := by
  have e := tab_at hD (d := N / 16 ^ (q - 1 - j) % 16) (Nat.mod_lt _ (by decide))
  rw [← key4 hj] at e
  exact KTD.item_text T (in_of e) (eachL_of e h) hs hg
theorem it_three {N q j : Nat} (hj : j < q) (hD : tabOk D 8 3 = true) (T : KTD.Here h₀ s.heap a D)
    (h : ∀ t, Q (.str (tx [sgn (N / 8 ^ (q - 1 - j) % 8)]) t) { s with toks := s.toks + 1 })
    (hs : subscripted slice false (.ref a) (.str (Txt.slice (tx (fx 2 N (3 * q))) (some ((j : Int) * 3)) (some ((j : Int) * 3 + 3))) tk) = operate [.ref a, .str (Txt.slice (tx (fx 2 N (3 * q))) (some ((j : Int) * 3)) (some ((j : Int) * 3 + 3))) tk] (getItem (.ref a) (.str (Txt.slice (tx (fx 2 N (3 * q))) (some ((j : Int) * 3)) (some ((j : Int) * 3 + 3))) tk)) := by with_unfolding_all rfl) (hg : ∀ r, letTemporaryGo value (.ref a) r = pure () := by intro _; with_unfolding_all rfl) :
    wpAny (model prog w) A (subscriptTail value slice (.ref a) (.str (Txt.slice (tx (fx 2 N (3 * q))) (some ((j : Int) * 3)) (some ((j : Int) * 3 + 3))) tk)) Q E s := by
  have e := tab_at hD (d := N / 8 ^ (q - 1 - j) % 8) (Nat.mod_lt _ (by decide))
  rw [← key3 hj] at e
  exact KTD.item_text T (in_of e) (eachL_of e h) hs hg
end
/-- a text's groups: the call, cut -/
theorem cutG (b : Int) {M : Model} {A : Around} {E : Value → Shared → Prop} {Q : Value → Shared → Prop} {s : Shared} {h₀ : Heap} {L : Addr} {m : Str → Option Value} {news : List (Addr × Obj)} {f D : Addr} {N w : Nat} {ts tz : Tok} {sz : Int}
    (F : Fr h₀ L s.heap m) (N' : News h₀ L s.heap news)
    (hk : ∀ (t : Tok) (h : Heap) (tk : Nat), Fr h₀ L h m → News h₀ L h news → Q (.str (dgS (N : Int) b) t) { s with heap := h, toks := tk })
    (hc : wpAny M A (call (.ref f) [.str (tx (fx 2 N w)) ts, .ref D, .int sz tz]) (fun v s₂ => CutS (fun r => r = dgS (N : Int) b) h₀ L m news s v s₂) E s) : wpAny M A (call (.ref f) [.str (tx (fx 2 N w)) ts, .ref D, .int sz tz]) Q E s :=
  cutS_ (fun r => r = dgS (N : Int) b) F N' (fun r t h tk e F' N' => by subst e; exact hk t h tk F' N') hc
/-- a menu of ints, cut by its bounds -/
theorem cutB (a b : Int) {M : Model} {A : Around} {E : Value → Shared → Prop} {Q : Value → Shared → Prop} {s : Shared} {h₀ : Heap} {L : Addr} {m : Str → Option Value} {news : List (Addr × Obj)} {cm : Sem Value}
    (F : Fr h₀ L s.heap m) (N : News h₀ L s.heap news)
    (hk : ∀ (x : Int) (t : Tok) (h : Heap) (tk : Nat), a ≤ x → x < b → Fr h₀ L h m → News h₀ L h news → Q (.int x t) { s with heap := h, toks := tk })
    (hc : wpAny M A cm (fun v s₂ => CutI (fun x => a ≤ x ∧ x < b) h₀ L m news s v s₂) E s) : wpAny M A cm Q E s :=
  cutI (fun x => a ≤ x ∧ x < b) F N (fun x t h tk hP F' N' => hk x t h tk hP.1 hP.2 F' N') hc
theorem cutPl {N w : Nat} {M : Model} {A : Around} {E : Value → Shared → Prop} {Q : Value → Shared → Prop} {s : Shared} {h₀ : Heap} {L : Addr} {m : Str → Option Value} {news : List (Addr × Obj)} {cm : Sem Value}
    (_hN : N < 2 ^ w) (F : Fr h₀ L s.heap m) (N' : News h₀ L s.heap news)
    (hk : ∀ (x : Int) (t : Tok) (h : Heap) (tk : Nat), 0 ≤ x → x < (w : Int) → Fr h₀ L h m → News h₀ L h news → Q (.int x t) { s with heap := h, toks := tk })
    (hc : wpAny M A cm (fun v s₂ => CutI (fun x => 0 ≤ x ∧ x < (w : Int)) h₀ L m news s v s₂) E s) : wpAny M A cm Q E s := cutB 0 (w : Int) F N' hk hc
/-! the loop over the groups -/
theorem rs_step {sz q : Nat} (h : sz = 3 ∨ sz = 4) : Builtin.Range.rangeSize 0 ((sz : Int) * (q : Int)) (sz : Int) = (q : Int) := by
  unfold Builtin.Range.rangeSize
  rcases h with rfl | rfl
  · rw [if_pos (by decide)]; split <;> omega
  · rw [if_pos (by decide)]; split <;> omega
theorem small_step {sz q : Nat} (h : sz = 3 ∨ sz = 4) (hq : sz * q ≤ 67) : Builtin.Range.small 0 ((sz : Int) * (q : Int)) (sz : Int) = true := by
  unfold Builtin.Range.small
  rw [rs_step h]
  rcases h with rfl | rfl
  · rw [if_pos (by decide)]
    simp only [Builtin.Range.rangeFitsLong, Bool.and_eq_true, Bool.or_eq_true, decide_eq_true_eq, beq_iff_eq]
    omega
  · rw [if_pos (by decide)]
    simp only [Builtin.Range.rangeFitsLong, Bool.and_eq_true, Bool.or_eq_true, decide_eq_true_eq, beq_iff_eq]
    omega
theorem sts_end {h₀ h' : Heap} {L : Addr} {m' m₀ : Str → Option Value} {own news' led : List (Addr × Obj)} {adr : List Addr} {s₁ : Shared} {tk : Nat} {y x : Str} {P : Nat → Str → Prop} {i : Nat} {t : Str} {k : Tok}
    (F : Fr h₀ L h' m') (N : News h₀ L h' news') (hy : m' y = some (.str t k)) (hP : P i t) (hs : ∀ z, z ≠ x → z ≠ y → m' z = m₀ z) (ha : led.map (·.1) = adr) (hn : ∀ p ∈ led, p ∈ news') (ho : ∀ p ∈ own, p ∈ news') :
    InvEndN h₀ L (StS y x m₀ led P i) own adr s₁ { s₁ with heap := h', toks := tk } := InvEndN.intro F N ⟨rfl, ⟨t, k, hy, hP⟩, hs⟩ ha hn ho
section
variable {prog : Program} {w : World} {A : Around} {E : Value → Shared → Prop} {s : Shared} {env : Env} {h₀ : Heap} {x : Str} {body : List Stmt} {Q : Flow → Shared → Prop}
theorem step_grp (b : Nat) (y : Str) {sz : Nat} (hsz : sz = 3 ∨ sz = 4) {r : Addr} {t₀ u₀ v₀ : Tok} {N q : Nat} {m₀ : Str → Option Value} {led : List (Addr × Obj)} {k₀ : Tok}
    (hh : A.handled = none) (hr : IsRange s.heap r 0 ((tx (fx 2 N (sz * q))).length : Int) (sz : Int) t₀ u₀ v₀) (hq : sz * q ≤ 67) (F : Fr h₀ env.locals s.heap m₀) (N' : News h₀ env.locals s.heap led)
    (hxy : y ≠ x) (hy : m₀ y = some (.str (Str.ofString "") k₀))
    (turn : ∀ (i : Nat) (t : Str) (k kt : Tok) h tk own, i < q → OwnOff own (led.map (·.1)) → GP N q b i t →
      Fr h₀ env.locals h (fun z => if z = x then some (.int ((i : Int) * (sz : Int)) k) else if z = y then some (.str t kt) else m₀ z) → News h₀ env.locals h (led ++ own) →
      wpAny (model prog w) A (execs body env) (InvPostN h₀ env.locals (StS y x m₀ led (GP N q b) (i + 1)) own (led.map (·.1)) { s with heap := h, toks := tk } Q) E { s with heap := h, toks := tk })
    (done : ∀ (t : Str) (kt : Tok) (u : Str → Option Value) h tk, GP N q b q t → Fr h₀ env.locals h (fun z => if z = x then u z else if z = y then some (.str t kt) else m₀ z) → News h₀ env.locals h led → Q .next { s with heap := h, toks := tk }) :
    wpAny (model prog w) A (pyIter (.ref r)) (fun it s₂ => LoopAtV prog w A h₀ env x body Q E it s₂) E s := by
  have e : ((tx (fx 2 N (sz * q))).length : Int) = (sz : Int) * (q : Int) := by rw [fx_len]; push_cast; rfl
  rw [e] at hr
  refine step_text (GP N q b) y hh hr ?_ ?_ F N' hxy hy (gp_start N q b) turn done
  · exact small_step hsz hq
  · exact rs_step hsz
theorem step4 (y : Str) {r : Addr} {t₀ u₀ v₀ : Tok} {N q : Nat} {m₀ : Str → Option Value} {led : List (Addr × Obj)} {k₀ : Tok}
    (hh : A.handled = none) (hr : IsRange s.heap r 0 ((tx (fx 2 N (4 * q))).length : Int) 4 t₀ u₀ v₀) (hq : 4 * q ≤ 67) (F : Fr h₀ env.locals s.heap m₀) (N' : News h₀ env.locals s.heap led)
    (hxy : y ≠ x) (hy : m₀ y = some (.str (Str.ofString "") k₀))
    (turn : ∀ (i : Nat) (t : Str) (k kt : Tok) h tk own, i < q → OwnOff own (led.map (·.1)) → GP N q 16 i t →
      Fr h₀ env.locals h (fun z => if z = x then some (.int ((i : Int) * 4) k) else if z = y then some (.str t kt) else m₀ z) → News h₀ env.locals h (led ++ own) →
      wpAny (model prog w) A (execs body env) (InvPostN h₀ env.locals (StS y x m₀ led (GP N q 16) (i + 1)) own (led.map (·.1)) { s with heap := h, toks := tk } Q) E { s with heap := h, toks := tk })
    (done : ∀ (t : Str) (kt : Tok) (u : Str → Option Value) h tk, GP N q 16 q t → Fr h₀ env.locals h (fun z => if z = x then u z else if z = y then some (.str t kt) else m₀ z) → News h₀ env.locals h led → Q .next { s with heap := h, toks := tk }) :
    wpAny (model prog w) A (pyIter (.ref r)) (fun it s₂ => LoopAtV prog w A h₀ env x body Q E it s₂) E s :=
  step_grp 16 y (sz := 4) (Or.inr rfl) hh hr hq F N' hxy hy turn done
theorem step3 (y : Str) {r : Addr} {t₀ u₀ v₀ : Tok} {N q : Nat} {m₀ : Str → Option Value} {led : List (Addr × Obj)} {k₀ : Tok}
    (hh : A.handled = none) (hr : IsRange s.heap r 0 ((tx (fx 2 N (3 * q))).length : Int) 3 t₀ u₀ v₀) (hq : 3 * q ≤ 67) (F : Fr h₀ env.locals s.heap m₀) (N' : News h₀ env.locals s.heap led)
    (hxy : y ≠ x) (hy : m₀ y = some (.str (Str.ofString "") k₀))
    (turn : ∀ (i : Nat) (t : Str) (k kt : Tok) h tk own, i < q → OwnOff own (led.map (·.1)) → GP N q 8 i t →
      Fr h₀ env.locals h (fun z => if z = x then some (.int ((i : Int) * 3) k) else if z = y then some (.str t kt) else m₀ z) → News h₀ env.locals h (led ++ own) →
      wpAny (model prog w) A (execs body env) (InvPostN h₀ env.locals (StS y x m₀ led (GP N q 8) (i + 1)) own (led.map (·.1)) { s with heap := h, toks := tk } Q) E { s with heap := h, toks := tk })
    (done : ∀ (t : Str) (kt : Tok) (u : Str → Option Value) h tk, GP N q 8 q t → Fr h₀ env.locals h (fun z => if z = x then u z else if z = y then some (.str t kt) else m₀ z) → News h₀ env.locals h led → Q .next { s with heap := h, toks := tk }) :
    wpAny (model prog w) A (pyIter (.ref r)) (fun it s₂ => LoopAtV prog w A h₀ env x body Q E it s₂) E s :=
  step_grp 8 y (sz := 3) (Or.inl rfl) hh hr hq F N' hxy hy turn done
end
/-! the ends, as the walk meets them -/
section
variable {N w : Nat}
theorem uend1 {m : Int} (hne : m ≠ (N : Int)) (h : RdInv (KStt.codes (tx (fx 2 N w))) m) (hN : N < 2 ^ w) : False := tend1 hne h hN
theorem uendr {a : Str} (hne : (a != a) = true) : False := by simp at hne
theorem uend3 (hne : (btS (N : Int) ((tx (fx 2 N w)).length : Int) != tx (fx 2 N w)) = true) (hN : N < 2 ^ w) : False := tend3 (fun e => uendr (a := tx (fx 2 N w)) (by rw [e] at hne; exact hne)) hN
theorem uend4 {v : Int} {want : Str} (hne : (btS (N : Int) v != want) = true) (h : WtInv (cutS (tx (fx 2 N w)) 0) v want) (hl : ¬ (want.length : Int) < v) (hN : N < 2 ^ w) : False := tend4 (fun e => uendr (a := want) (by rw [e] at hne; exact hne)) h hl hN
theorem uend9 {X : Str} {n : Int} (hb : Bad X) (h : RdInv (KStt.codes X) n) : False := rd_bad hb h
end
theorem dx16 {N n : Int} {text : Str} (h : DgInv 16 N n text) (h0 : ¬ N = 0) (hn : ¬ n > 0) : text = dgS N 16 := dx_end (b := 16) h0 h hn
theorem dx8 {N n : Int} {text : Str} (h : DgInv 8 N n text) (h0 : ¬ N = 0) (hn : ¬ n > 0) : text = dgS N 8 := dx_end (b := 8) h0 h hn
/-! what the contracts ask, hidden -/
def P64 (n : Int) : Prop := 0 ≤ n ∧ n < 18446744073709551616
theorem p64 {n : Int} (h : 0 ≤ n ∧ n < 18446744073709551616) : P64 n := h
theorem dgsP {b : Nat} {n0 : Int} (h : P64 n0) : DgInv b n0 n0 (Str.ofString "") ∧ (Str.ofString "").length ≤ 64 := dgs h.1 h.2
theorem dtsP {b N : Int} {c : Nat} (h : P64 N ∧ (b = 16 ∨ b = 8)) : DgT b (N.fdiv b) (tx [c]) (N.fdiv b) (tx [c]) ∧ (tx [c]).length ≤ 65 := dts' h
theorem dteP {b N n : Int} {text : Str} (hN : P64 N ∧ (b = 16 ∨ b = 8)) (h : DgT b (N.fdiv b) (tx [sgn (N.fmod b).toNat]) n text) (hn : ¬ n > 0) : text = dgS N b := dte' hN h hn
theorem dt_lessP {b N n : Int} (hb : P64 N ∧ (b = 16 ∨ b = 8)) (h : n > 0) : (n.fdiv b).toNat < n.toNat := dt_less hb.2 h
end Mine
open Mine
local macro_rules | `(tactic| k_room) => `(tactic| ((simp only [depth_under_make, depth_under_kw, depth_in1, depth_deeper, depth_caller]); omega))
local macro_rules | `(tactic| ktr_room) => `(tactic| ((simp only [depth_under_make, depth_under_kw, depth_in1, depth_deeper, depth_caller]); omega))
local macro_rules | `(tactic| walk_at "CutS") => `(tactic| (refine' cutS_end ?cP ?cF ?cN ?cS; (case cF => k_asm); (case cN => assumption); (case cS => kcj_all); (case cP => k_extra "cut")))
local macro_rules | `(tactic| walk_at "call ref") => `(tactic| (k_here; (with_reducible show wpAny _ _ (call (Value.ref (ktn_at% "_law_make")) _) _ _ _); (fail_if_success (with_reducible show wpAny _ _ _ (fun v s₂ => CutS _ _ _ _ _ _ v s₂) _ _)); (refine' cutS_ Bin ?cF ?cN ?_ ?_; (case cF => k_asm); (case cN => k_asm); (intro x9 t9 h9 tk9 hx9 F9 N9); (try dsimp only); (obtain ⟨N9, w9, hw1, hw2, hN9, e9⟩ := bin_out hx9); subst e9; (have hv9 := w64 hw2 hN9); (have hp9 := p64 hv9); (have hl9 := fx_len N9 w9))))
local macro_rules | `(tactic| walk_at "eval Call") => `(tactic| (k_here; (with_reducible show wpAny _ _ (eval (Expr.Call (Expr.Name (Str.ofString "_law_cell") _) _ [] _) _) _ _ _); k_dflt (refine Call_ ?_)))
local macro_rules | `(tactic| walk_at "eval Call") => `(tactic| (k_here; (with_reducible show wpAny _ _ (eval (Expr.Call (Expr.Name (Str.ofString "_law_make") _) _ [] _) _) _ _ _); k_dflt (refine Call_ ?_)))
local macro_rules | `(tactic| walk_at "eval Call") => `(tactic| (k_here; (with_reducible show wpAny _ _ (eval (Expr.Call (Expr.Name (Str.ofString "_law_value") _) _ [] _) _) _ _ _); k_dflt (refine Call_ ?_)))
local macro_rules | `(tactic| walk_at "eval Call") => `(tactic| (k_here; (with_reducible show wpAny _ _ (eval (Expr.Call (Expr.Name (Str.ofString "binary_text") _) _ [] _) _) _ _ _); k_dflt (refine Call_ ?_)))
local macro_rules | `(tactic| walk_at "eval Call") => `(tactic| (k_here; (with_reducible show wpAny _ _ (eval (Expr.Call (Expr.Name (Str.ofString "hex_text") _) _ [] _) _) _ _ _); k_dflt (refine Call_ ?_)))
local macro_rules | `(tactic| walk_at "eval Call") => `(tactic| (k_here; (with_reducible show wpAny _ _ (eval (Expr.Call (Expr.Name (Str.ofString "octal_text") _) _ [] _) _) _ _ _); k_dflt (refine Call_ ?_)))
local macro_rules | `(tactic| walk_at "eval Call") => `(tactic| (k_here; (with_reducible show wpAny _ _ (eval (Expr.Call (Expr.Name (Str.ofString "_law_digits") _) _ [] _) _) _ _ _); k_dflt (refine Call_ ?_)))
local macro_rules | `(tactic| walk_at "eval Call") => `(tactic| (k_here; (with_reducible show wpAny _ _ (eval (Expr.Call (Expr.Name (Str.ofString "_law_cut") _) _ [] _) _) _ _ _); k_dflt (refine Call_ ?_)))
local macro_rules | `(tactic| walk_at "call ref") => `(tactic| (k_here; (with_reducible show wpAny _ _ (call (Value.ref (ktn_at% "_law_cell")) _) _ _ _); (k_call_by "_law_cell" cell0 (fun _ i => 0 ≤ i))))
local macro_rules | `(tactic| walk_at "binaryOp Add str str") => `(tactic| (k_here; (with_reducible refine' KXadd.add (K := 1000) (L := 1000) ?a ?b ?c ?_); (case a => k_extra "len"); (case b => k_extra "len"); (case c => decide); intro _ _ _))
local macro_rules | `(tactic| walk_at "subscriptTail Constant str BinOp str int") => `(tactic| (k_here; first | (refine it_bin (by k_extra "om") ?_) | (refine it_hex (by k_extra "om") ?_) | (refine it_oct (by k_extra "om") ?_)))
local macro_rules | `(tactic| walk_at "subscriptTail Name BinOp str int") => `(tactic| (k_here; (refine it_sgn (by k_extra "om") (by k_extra "om") ?_)))
local macro_rules | `(tactic| walk_at "subscriptTail Name Name str int") => `(tactic| (k_here; (refine it_at (by k_extra "om") (by k_extra "om") (by k_extra "len") ?_)))
local macro_rules | `(tactic| walk_at "binaryOp Mod int int") => `(tactic| (k_here; (with_reducible refine' mod_int' ?a ?_); (case a => (first | (with_reducible exact Int.ne_of_gt (pow_pos_of (by decide) _)) | decide | k_extra "om"))))
local macro_rules | `(tactic| walk_at "binaryOp Pow int int") => `(tactic| (k_here; (with_reducible refine' pow_int_small ?a ?b ?c ?_); (case a => (first | ((with_reducible refine (fmod_range _ ?_).1); k_extra "om") | k_extra "om")); (case b => (first | ((with_reducible refine Int.le_of_lt (Int.lt_of_lt_of_le (fmod_range _ ?_).2 ?_)) <;> k_extra "om") | k_extra "om")); (case c => decide)))
local macro_rules | `(tactic| walk_at "inplaceOp LShift int int") => `(tactic| (k_here; (with_reducible refine' ilshift_int_small ?a ?b ?c ?_); (case a => decide); (case b => decide); (case c => exact rd_small (by assumption) (pre_len' (by assumption) (by k_extra "len")))))
local macro_rules | `(tactic| walk_at "storeName") => `(tactic| (k_here; (with_reducible refine gen_v (R := fun W => wpAny _ _ (storeName _ _ (Value.int W _)) _ _ _) (by assumption) ?_)))
local macro_rules | `(tactic| walk_at "binaryOp Mult str int") => `(tactic| (k_here; (with_reducible refine' KXi.mul (n := 1) ?a ?b ?c ?d ?_); (case a => exact zlen); (case b => decide); (case c => k_extra "om"); (case d => k_extra "om"); intro _ _ kz9 kn9))
local macro_rules | `(tactic| walk_at "execs cons Raise nil") => `(tactic| (first | (exfalso; (with_reducible first | exact rd_empty (by assumption) (by assumption) | exact rd_no' (by assumption) (by assumption) (by assumption)))))
local macro_rules | `(tactic| walk_at "exec While Compare cons nil") => `(tactic| (k_here; (with_reducible show wpAny _ _ (exec (Stmt.While (Expr.Compare _ _ _ { line := 4, col := _, endLine := _, endCol := _ }) _ _ _) _) _ _ _); (k_while_given ["n!"] (fun n0 _ n text => DgInv 2 n0 n text ∧ text.length ≤ 64) (fun _ _ n _ => n.toNat) "n" "text")))
local macro_rules | `(tactic| walk_at "exec While Compare cons nil") => `(tactic| (k_here; (with_reducible show wpAny _ _ (exec (Stmt.While (Expr.Compare _ _ _ { line := 12, col := _, endLine := _, endCol := _ }) _ _ _) _) _ _ _); (k_while_given ["n!"] (fun n0 _ n text => DgInv 16 n0 n text ∧ text.length ≤ 64) (fun _ _ n _ => n.toNat) "n" "text")))
local macro_rules | `(tactic| walk_at "exec While Compare cons nil") => `(tactic| (k_here; (with_reducible show wpAny _ _ (exec (Stmt.While (Expr.Compare _ _ _ { line := 20, col := _, endLine := _, endCol := _ }) _ _ _) _) _ _ _); (k_while_given ["n!"] (fun n0 _ n text => DgInv 8 n0 n text ∧ text.length ≤ 64) (fun _ _ n _ => n.toNat) "n" "text")))
local macro_rules | `(tactic| walk_at "exec While Compare cons nil") => `(tactic| (k_here; (with_reducible show wpAny _ _ (exec (Stmt.While (Expr.Compare _ _ _ { line := 68, col := _, endLine := _, endCol := _ }) _ _ _) _) _ _ _); (k_while_given ["base", "n!", "text!"] (fun base n0 t0 _ n text => DgT base n0 t0 n text ∧ text.length ≤ 65) (fun _ _ _ _ n _ => n.toNat) "n" "text")))
local macro_rules | `(tactic| walk_at "CutI") => `(tactic| (refine' cutI_end ?cP ?cF ?cN ?cS; (case cF => k_asm); (case cN => assumption); (case cS => kcj_all); (case cP => k_extra "cut")))
local macro_rules | `(tactic| walk_at "eval Subscript") => `(tactic| (k_here; (with_reducible show wpAny _ _ (eval (Expr.Subscript (Expr.List _ _) _ { line := 46, col := _, endLine := _, endCol := _ }) _) _ _ _); (fail_if_success (with_reducible show wpAny _ _ _ (fun v s₂ => CutI _ _ _ _ _ _ v s₂) _ _)); (refine' cutB 0 64 ?cF ?cN ?_ ?_; (case cF => k_asm); (case cN => k_asm); (intro x9 t9 h9 tk9 hx1 hx2 F9 N9); (try dsimp only))))
local macro_rules | `(tactic| walk_at "eval Subscript") => `(tactic| (k_here; (with_reducible show wpAny _ _ (eval (Expr.Subscript (Expr.List _ _) _ { line := 51, col := _, endLine := _, endCol := _ }) _) _ _ _); (fail_if_success (with_reducible show wpAny _ _ _ (fun v s₂ => CutI _ _ _ _ _ _ v s₂) _ _)); (refine' cutI (fun _ => True) ?cF ?cN ?_ ?_; (case cF => k_asm); (case cN => k_asm); (intro x9 t9 h9 tk9 hx1 F9 N9); (try dsimp only))))
local macro_rules | `(tactic| walk_at "eval Subscript") => `(tactic| (k_here; (with_reducible show wpAny _ _ (eval (Expr.Subscript (Expr.List _ _) _ { line := 103, col := _, endLine := _, endCol := _ }) _) _ _ _); (fail_if_success (with_reducible show wpAny _ _ _ (fun v s₂ => CutI _ _ _ _ _ _ v s₂) _ _)); (refine' cutB 0 66 ?cF ?cN ?_ ?_; (case cF => k_asm); (case cN => k_asm); (intro x9 t9 h9 tk9 hx1 hx2 F9 N9); (try dsimp only))))
local macro_rules | `(tactic| walk_at "eval Subscript") => `(tactic| (k_here; (with_reducible show wpAny _ _ (eval (Expr.Subscript (Expr.List _ _) _ { line := 120, col := _, endLine := _, endCol := _ }) _) _ _ _); (fail_if_success (with_reducible show wpAny _ _ _ (fun v s₂ => CutI _ _ _ _ _ _ v s₂) _ _)); (refine' cutPl (by with_reducible assumption) ?cF ?cN ?_ ?_; (case cF => k_asm); (case cN => k_asm); (intro x9 t9 h9 tk9 hx1 hx2 F9 N9); (try dsimp only))))
local macro_rules | `(tactic| walk_at "call ref") => `(tactic| (k_here; (with_reducible show wpAny _ _ (call (Value.ref (ktn_at% "_law_grouped")) [_, _, Value.int 4 _]) _ _ _); (fail_if_success (with_reducible show wpAny _ _ _ (fun v s₂ => CutS _ _ _ _ _ _ v s₂) _ _)); (refine' cutG 16 ?cF ?cN ?_ ?_; (case cF => k_asm); (case cN => k_asm); (intro t9 h9 tk9 F9 N9); (try dsimp only))))
local macro_rules | `(tactic| walk_at "pyIter ref") => `(tactic| (k_here; (with_reducible show wpAny _ _ (pyIter (Value.ref _)) (fun it s₂ => LoopAtV _ _ _ _ _ _ _ _ _ it s₂) _ _); (with_reducible rename PadInv _ _ (Int.toNat 4) => hp9); (with_reducible rename (¬ (Int.fmod _ 4) > 0) => hm9); (obtain ⟨q9, e9, hN9, hq9, hl9⟩ := pad4 hm9 hp9 (by with_reducible assumption)); subst e9; (clear hp9 hm9); (rename Fr _ _ _ _ => lF'); (rename News _ _ _ _ => lN'); (rename IsRange _ _ _ _ _ _ _ _ => rgX); (with_unfolding_all refine' step4 (Str.ofString "text") (by rfl) rgX hl9 lF' lN' ?hxy ?hy ?_ ?_); (case hxy => decide); (case hy => with_unfolding_all rfl); (all_goals (try clear lF' lN')); (intro i9 t9 k9 kt9 h9 tk9 own9 hi9 hoff9 hP9 F9 N9); (have hg9 := gp_len hP9); rotate_left; (intro t9 kt9 u9 h9 tk9 hP9 F9 N9); (have hg9 := gp_len hP9); rotate_right; (all_goals (try dsimp only))))
local macro_rules | `(tactic| walk_at "call ref") => `(tactic| (k_here; (with_reducible show wpAny _ _ (call (Value.ref (ktn_at% "_law_grouped")) [_, _, Value.int 3 _]) _ _ _); (fail_if_success (with_reducible show wpAny _ _ _ (fun v s₂ => CutS _ _ _ _ _ _ v s₂) _ _)); (refine' cutG 8 ?cF ?cN ?_ ?_; (case cF => k_asm); (case cN => k_asm); (intro t9 h9 tk9 F9 N9); (try dsimp only))))
local macro_rules | `(tactic| walk_at "pyIter ref") => `(tactic| (k_here; (with_reducible show wpAny _ _ (pyIter (Value.ref _)) (fun it s₂ => LoopAtV _ _ _ _ _ _ _ _ _ it s₂) _ _); (with_reducible rename PadInv _ _ (Int.toNat 3) => hp9); (with_reducible rename (¬ (Int.fmod _ 3) > 0) => hm9); (obtain ⟨q9, e9, hN9, hq9, hl9⟩ := pad3 hm9 hp9 (by with_reducible assumption)); subst e9; (clear hp9 hm9); (rename Fr _ _ _ _ => lF'); (rename News _ _ _ _ => lN'); (rename IsRange _ _ _ _ _ _ _ _ => rgX); (with_unfolding_all refine' step3 (Str.ofString "text") (by rfl) rgX hl9 lF' lN' ?hxy ?hy ?_ ?_); (case hxy => decide); (case hy => with_unfolding_all rfl); (all_goals (try clear lF' lN')); (intro i9 t9 k9 kt9 h9 tk9 own9 hi9 hoff9 hP9 F9 N9); (have hg9 := gp_len hP9); rotate_left; (intro t9 kt9 u9 h9 tk9 hP9 F9 N9); (have hg9 := gp_len hP9); rotate_right; (all_goals (try dsimp only))))
local macro_rules | `(tactic| walk_at "InvEndN") => `(tactic| ((with_reducible show InvEndN _ _ (StS _ _ _ _ _ _) _ _ _ _); (with_reducible rename News _ _ _ _ => nE'); (with_reducible rename Fr _ _ _ _ => fE'); (with_unfolding_all refine' sts_end fE' nE' ?e1 ?e2 ?e3 ?e4 ?e5 ?e6); (case e1 => with_unfolding_all rfl); (case e2 => exact gp_turn (by assumption) (by assumption)); (case e3 => (intro z h1 h2; first | rfl | (simp [h1, h2]; done) | (simp_all; done))); (case e4 => rfl); (case e5 => (with_unfolding_all ((try simp only [List.nil_append, List.cons_append]); first | k_allIn | kst_allIn))); (case e6 => (intro p hp; first | k_ownIn | kst_mem))))
local macro_rules | `(tactic| walk_at "subscriptTail") => `(tactic| (k_here; (with_reducible show wpAny _ _ (subscriptTail _ _ (Value.ref _) (Value.str (Txt.slice _ _ _) _)) _ _ _); (try kt_k); (first | (with_reducible refine' it_four ?hj ?hD ?hT ?_) | (with_reducible refine' it_three ?hj ?hD ?hT ?_)); (case hT => kt_tab); (case hD => decide +kernel); (case hj => with_reducible assumption); intro _))
local macro_rules | `(tactic| walk_at "eval Call") => `(tactic| (k_here; (with_reducible show wpAny _ _ (eval (Expr.Call (Expr.Name (Str.ofString "_law_grouped") _) _ [] _) _) _ _ _); k_dflt (refine Call_ ?_)))
local macro_rules | `(tactic| walk_at "eval Call") => `(tactic| (k_here; (with_reducible show wpAny _ _ (eval (Expr.Call (Expr.Name (Str.ofString "_law_read") _) _ [] _) _) _ _ _); k_dflt (refine Call_ ?_)))
local macro_rules | `(tactic| walk_at "eval Call") => `(tactic| (k_here; (with_reducible show wpAny _ _ (eval (Expr.Call (Expr.Name (Str.ofString "from_binary_text") _) _ [] _) _) _ _ _); k_dflt (refine Call_ ?_)))
local macro_rules | `(tactic| walk_at "call ref") => `(tactic| (k_here; (with_reducible show wpAny _ _ (call (Value.ref (ktn_at% "_law_read")) [Value.str (_ ++ _ ++ _) _]) _ _ _); (refine gen_badF (R := fun X => wpAny _ _ (call (Value.ref _) [Value.str X _]) _ _ _) (by with_reducible assumption) (by with_reducible assumption) (by with_reducible assumption) ?_); intro X9 hX9 hX8))
set_option maxRecDepth 100000 in
set_option maxHeartbeats 80000000 in
theorem PySem.Challenge.cw_pd_bitworks_2_06_holds : PySem.Challenge.rw_pd_bitworks_2_06.Holds := by
  (k_with "om" => ((repeat ((with_reducible rename ((_ ≠ _) ∧ _) => hz9); clear hz9)); (repeat ((with_reducible rename (((_ ≠ _) ∧ _) ∧ _) => hz9); clear hz9)); omega))
  (k_with "len" => (first | k_extra "om" | decide | (simp only [fx_len, tx_length, List.length_cons, List.length_nil]; k_extra "om")))
  (k_with "tree" => (with_reducible first | exact cte2 (by assumption) (by assumption) (by assumption) | exact cte1 (by assumption) (by assumption) (by assumption) | exact bt_end (by assumption) (by assumption) | exact dx16 (by assumption) (by assumption) (by assumption) | exact dx8 (by assumption) (by assumption) (by assumption) | exact dz_end (by assumption) | exact dteP (by assumption) (by assumption) (by assumption) | exact vle (by assumption) (by rw [downKs_length]; omega) | (unfold cell0; (repeat (first | rw [if_pos (by assumption)] | rw [if_neg (by assumption)])); done)))
  (k_with "call ref" => k_call_by "_law_value" valS (fun s => s.length ≤ 64))
  (k_with "call ref" => k_call_by "binary_text" btS (fun n w => 0 ≤ n ∧ n < 18446744073709551616 ∧ 0 ≤ w ∧ w ≤ 100))
  (k_with "call ref" => k_call_by "hex_text" (fun n => dgS n 16) (fun n => P64 n))
  (k_with "call ref" => k_call_by "octal_text" (fun n => dgS n 8) (fun n => P64 n))
  (k_with "call ref" => k_call_by "_law_digits" dgS (fun n b => P64 n ∧ (b = 16 ∨ b = 8)))
  (k_with "call ref" => k_call_by "_law_cut" cutS (fun s k => 0 ≤ k ∧ s.length ≤ 67))
  (k_with "pyIter ref" => (k_of "at" => k_state_given ["s"] (fun s pre total weight => VlInv s pre.length total weight) "total" "weight"))
  (k_with "pyIter ref" => (k_of "turn" => k_state_given ["m!"] (fun m0 pre s m => s.length = pre.length ∧ MkInv m0 pre.length s m) "s" "m"))
  (k_with "pyIter str" => k_state (fun pre n => RdInv pre n) "n")
  (k_with "exec While BoolOp cons nil" => k_while_given ["text", "least"] (fun text least _ i => CtInv text least i ∧ 0 ≤ i ∧ i ≤ (text.length : Int)) (fun text _ _ i => text.length - i.toNat) "at")
  (k_with "fact _law_cut" => exact cutS_len)
  (k_with "exec While Compare cons nil" => k_while_given ["want!", "v"] (fun w0 v _ want => WtInv w0 v want ∧ want.length ≤ 130) (fun _ v _ want => (v - (want.length : Int)).toNat) "want")
  (k_with "exec While Compare cons nil" => k_while_given ["s!", "size"] (fun s0 size _ s => PadInv s0 s size.toNat ∧ s.length ≤ 67) (fun _ size _ s => ((-(s.length : Int)).fmod size).toNat) "s")
  (k_with "state" => first | (with_reducible first | exact wts (by k_extra "om") | exact wtt (by assumption) (by assumption) (by k_extra "om") | exact pds (by decide) (by assumption) (by assumption) (by assumption) | exact pdt (by decide) (by assumption) (by assumption) | exact cts' _ (by omega) | exact ctt' (by assumption) (by assumption) (by assumption) | exact dgsP (by assumption) | exact dgs (by omega) (by omega) | exact dgt2 (by assumption) (by assumption) | exact dgt16 (by assumption) (by assumption) | exact dgt8 (by assumption) (by assumption) | exact dtt (by assumption) (by assumption) | exact dtsP (by assumption) | exact vls _ | exact vlt1' (by assumption) (by assumption) (by assumption) (by assumption) | exact vlt0' (by assumption) (by assumption) (by assumption) (by assumption) | exact rd_start | exact rdt1 (by assumption) (by assumption) | exact rdt0 (by assumption) (by assumption) | exact rdtx (by assumption) (by assumption) | exact mks _ | exact mkt (by assumption) (by assumption) (by assumption) (by k_extra "om")) | exact wts (by k_extra "om") | exact wtt (by assumption) (by assumption) (by k_extra "om") | exact pds (by decide) (by assumption) (by assumption) (by assumption) | exact pdt (by decide) (by assumption) (by assumption) | exact cts' _ (by omega) | exact ctt' (by assumption) (by assumption) (by assumption) | exact dgsP (by assumption) | exact dgs (by omega) (by omega) | exact dgt2 (by assumption) (by assumption) | exact dgt16 (by assumption) (by assumption) | exact dgt8 (by assumption) (by assumption) | exact dtt (by assumption) (by assumption) | exact dtsP (by assumption) | exact vls _ | exact vlt1' (by assumption) (by assumption) (by assumption) (by assumption) | exact vlt0' (by assumption) (by assumption) (by assumption) (by assumption) | exact rd_start | exact rdt1 (by assumption) (by assumption) | exact rdt0 (by assumption) (by assumption) | exact rdtx (by assumption) (by assumption) | exact mks _ | exact mkt (by assumption) (by assumption) (by assumption) (by k_extra "om"))
  (k_with "measure" => first | (with_reducible first | exact wt_less (by assumption) | exact pd_less (by decide) (by assumption) | exact sh1 (by assumption) | exact sh4 (by assumption) | exact sh3 (by assumption) | exact dt_lessP (by assumption) (by assumption)) | exact wt_less (by assumption) | exact pd_less (by decide) (by assumption) | exact sh1 (by assumption) | exact sh4 (by assumption) | exact sh3 (by assumption) | exact dt_lessP (by assumption) (by assumption))
  (k_with "cut" => first | (with_reducible exact gp_cut16 (by assumption) (by assumption) (by assumption)) | (with_reducible exact gp_cut8 (by assumption) (by assumption) (by assumption)) | exact mke (by assumption) (rangeKs_length _ _) (by k_extra "om") (by k_extra "om") | exact trivial | exact cut_fm (by k_extra "om") (by k_extra "om") | exact ⟨by k_extra "om", by k_extra "om"⟩)
  (k_with "end" => ((with_reducible show (false == true) = true); exfalso; first | (with_reducible exact uend1 (by assumption) (by assumption) (by assumption)) | (with_reducible exact uend3 (by assumption) (by assumption)) | (with_reducible exact uend4 (by assumption) (by assumption) (by assumption) (by assumption)) | (with_reducible exact uend9 (by assumption) (by assumption)) | (with_reducible exact uendr (by assumption))))
  open_k
