import PyProof.Rows.All
import Wide.All
import OpenK.AllK
import Wide.FinOn
import PySem.Challenge.RW_pd_bitworks_2_03
open PySem PySem.W PyProof.Rows PySem.Calls
set_option Elab.async false
namespace Mine
/-- the number spelled by w bits -/
def spell (f : Nat → Bool) : Nat → Nat
  | 0 => 0
  | w + 1 => spell f w + (f w).toNat * 2 ^ w
theorem spell_lt (f : Nat → Bool) : ∀ w, spell f w < 2 ^ w
  | 0 => by simp [spell]
  | w + 1 => by
    have h := spell_lt f w
    have hb : (f w).toNat ≤ 1 := by cases f w <;> decide
    have : (f w).toNat * 2 ^ w ≤ 1 * 2 ^ w := Nat.mul_le_mul_right _ hb
    rw [spell, Nat.pow_succ]; omega
theorem spell_testBit (f : Nat → Bool) : ∀ w i, (spell f w).testBit i = (decide (i < w) && f i)
  | 0, i => by simp [spell]
  | w + 1, i => by
    have h := spell_testBit f w i
    have hl := spell_lt f w
    rw [spell, Nat.add_comm, Nat.mul_comm, Nat.testBit_two_pow_mul_add _ hl]
    by_cases hi : i < w
    · rw [if_pos hi, h]
      have : i < w + 1 := by omega
      simp [hi, this]
    · rw [if_neg hi]
      by_cases e : i = w
      · subst e
        cases f i <;> simp
      · have h1 : ¬ i < w + 1 := by omega
        have h2 : i - w ≠ 0 := by omega
        have : (f w).toNat.testBit (i - w) = false := by
          refine Nat.testBit_lt_two_pow ?_
          have : 2 ^ 1 ≤ 2 ^ (i - w) := Nat.pow_le_pow_right (by decide) (by omega)
          cases f w <;> simp <;> omega
        simp [h1, this]
theorem eq_spell {n w : Nat} {f : Nat → Bool} (h : n < 2 ^ w) (hf : ∀ i, i < w → n.testBit i = f i) : n = spell f w := by
  refine Nat.eq_of_testBit_eq fun i => ?_
  rw [spell_testBit]
  by_cases hi : i < w
  · simp [hi, hf i hi]
  · have : n.testBit i = false := Nat.testBit_lt_two_pow (Nat.lt_of_lt_of_le h (Nat.pow_le_pow_right (by decide) (by omega)))
    simp [hi, this]
theorem spell_congr {f g : Nat → Bool} : ∀ {w : Nat}, (∀ i, i < w → f i = g i) → spell f w = spell g w
  | 0, _ => rfl
  | w + 1, h => by rw [spell, spell, spell_congr fun i hi => h i (by omega), h w (by omega)]

/-- a bit as an int -/
def ib (b : Bool) : Int := (b.toNat : Int)
theorem ib_range (b : Bool) : 0 ≤ ib b ∧ ib b ≤ 1 := by cases b <;> decide
theorem bit_of (N i : Nat) : Int.fmod (Int.fdiv (N : Int) (2 ^ i)) 2 = ib (N.testBit i) := by
  have h2 : ((2 : Int) ^ i) = ((2 ^ i : Nat) : Int) := by simp
  rw [h2, Int.fdiv_eq_ediv_of_nonneg _ (Int.natCast_nonneg _), Int.fmod_eq_emod_of_nonneg _ (by decide), ib, Nat.testBit_eq_decide_div_mod_eq]
  have : ((N : Int) / ((2 ^ i : Nat) : Int)) % 2 = ((N / 2 ^ i % 2 : Nat) : Int) := by simp
  rw [this]
  have : N / 2 ^ i % 2 < 2 := Nat.mod_lt _ (by decide)
  by_cases h : N / 2 ^ i % 2 = 1
  · simp [h]
  · have : N / 2 ^ i % 2 = 0 := by omega
    simp [this]
theorem sum_spell (f : Nat → Bool) : ∀ w, ((List.range w).map fun i => ib (f i) * (2 : Int) ^ i).sum = (spell f w : Int)
  | 0 => rfl
  | w + 1 => by
    rw [List.range_succ, List.map_append, List.sum_append, sum_spell f w, spell]
    simp [ib]

theorem and_nat (a b : Nat) : Builtin.bitAnd (a : Int) (b : Int) = ((a &&& b : Nat) : Int) := by
  rw [bitAnd_pp (by omega) (by omega)]; simp
theorem or_nat (a b : Nat) : Builtin.bitOr (a : Int) (b : Int) = ((a ||| b : Nat) : Int) := by
  have h := nat_or_add_and a b
  rw [bitOr_and, and_nat]; omega
theorem xor_add (a : Nat) : ∀ b : Nat, (a ^^^ b) + 2 * (a &&& b) = a + b := by
  induction a using Nat.strongRecOn with
  | ind m ih =>
    intro n
    by_cases h0 : m = 0
    · subst h0; simp
    · have ih' := ih (m / 2) (by omega) (n / 2)
      rw [← Nat.xor_div_two, ← Nat.and_div_two] at ih'
      have o1 := @Nat.xor_mod_two_eq_one m n
      have a1 := @Nat.and_mod_two_eq_one m n
      omega
theorem xor_nat (a b : Nat) : Builtin.bitXor (a : Int) (b : Int) = ((a ^^^ b : Nat) : Int) := by
  have h := xor_add a b
  have h2 := nat_or_add_and a b
  unfold Builtin.bitXor
  rw [bitOr_and, and_nat]; omega
theorem shl_nat (a k : Nat) : (a : Int) * 2 ^ k = ((a <<< k : Nat) : Int) := by
  rw [Nat.shiftLeft_eq]; simp
theorem shr_nat (a k : Nat) : Int.fdiv (a : Int) (2 ^ k) = ((a >>> k : Nat) : Int) := by
  have h2 : ((2 : Int) ^ k) = ((2 ^ k : Nat) : Int) := by simp
  rw [h2, Int.fdiv_eq_ediv_of_nonneg _ (Int.natCast_nonneg _), Nat.shiftRight_eq_div_pow]
  simp
/-- the bit of N at a place taken round the width W -/
def B (N W : Nat) (z : Int) : Bool := N.testBit (z % (W : Int)).toNat
theorem emod_range {W : Nat} (hW : 0 < W) (z : Int) : 0 ≤ z % (W : Int) ∧ z % (W : Int) < W :=
  ⟨Int.emod_nonneg _ (by omega), Int.emod_lt_of_pos _ (by omega)⟩
theorem B_congr {N W : Nat} {y z : Int} (h : y % (W : Int) = z % (W : Int)) : B N W y = B N W z := by
  unfold B; rw [h]
theorem B_small {N W : Nat} {i : Nat} (h : i < W) : B N W i = N.testBit i := by
  unfold B
  have : ((i : Int) % (W : Int)).toNat = i := by
    rw [Int.emod_eq_of_lt (by omega) (by omega)]; rfl
  rw [this]
theorem B_emod {N W : Nat} {z : Int} : B N W (z % W) = B N W z := B_congr (Int.emod_emod _ _)
theorem B_spell {W : Nat} (hW : 0 < W) (g : Int → Bool) (hg : ∀ z, g (z % (W : Int)) = g z) (z : Int) : B (spell (fun i => g i) W) W z = g z := by
  have h := emod_range hW z
  unfold B
  rw [spell_testBit]
  have h1 : (z % (W : Int)).toNat < W := by omega
  have h2 : (((z % (W : Int)).toNat : Nat) : Int) = z % W := by omega
  rw [h2, hg]
  simp [h1]
theorem self_spell {N W : Nat} (h : N < 2 ^ W) : N = spell (fun i => B N W i) W :=
  eq_spell h fun i hi => (B_small hi).symm

def rotlN (N k W : Nat) : Nat := ((N <<< k) ||| (N >>> (W - k))) &&& (2 ^ W - 1)
def rotrN (N k W : Nat) : Nat := ((N >>> k) ||| (N <<< (W - k))) &&& (2 ^ W - 1)
theorem mask_lt (x W : Nat) : x &&& (2 ^ W - 1) < 2 ^ W := by
  rw [Nat.and_two_pow_sub_one_eq_mod]
  exact Nat.mod_lt _ (Nat.two_pow_pos W)
theorem high_bit {N W i : Nat} (h : N < 2 ^ W) (hi : W ≤ i) : N.testBit i = false :=
  Nat.testBit_lt_two_pow (Nat.lt_of_lt_of_le h (Nat.pow_le_pow_right (by decide) hi))
theorem rotlN_spell {N k W : Nat} (h : N < 2 ^ W) (hk : k < W) : rotlN N k W = spell (fun i => B N W ((i : Int) - k)) W := by
  refine eq_spell (mask_lt _ _) fun i hi => ?_
  unfold rotlN B
  rw [Nat.testBit_and, Nat.testBit_or, Nat.testBit_shiftLeft, Nat.testBit_shiftRight, Nat.testBit_two_pow_sub_one]
  by_cases hik : k ≤ i
  · have e : (((i : Int) - k) % (W : Int)).toNat = i - k := by
      rw [Int.emod_eq_of_lt (by omega) (by omega)]; omega
    rw [e, high_bit h (show W ≤ W - k + i by omega)]
    simp [hik, hi]
  · have e : (((i : Int) - k) % (W : Int)).toNat = W - k + i := by
      have : ((i : Int) - k) % (W : Int) = ((i : Int) - k + W) % (W : Int) := by simp
      rw [this, Int.emod_eq_of_lt (by omega) (by omega)]; omega
    rw [e]
    simp [hik, hi]
theorem rotrN_spell {N k W : Nat} (h : N < 2 ^ W) (hk : k < W) : rotrN N k W = spell (fun i => B N W ((i : Int) + k)) W := by
  refine eq_spell (mask_lt _ _) fun i hi => ?_
  unfold rotrN B
  rw [Nat.testBit_and, Nat.testBit_or, Nat.testBit_shiftLeft, Nat.testBit_shiftRight, Nat.testBit_two_pow_sub_one]
  by_cases hik : i + k < W
  · have e : (((i : Int) + k) % (W : Int)).toNat = k + i := by
      rw [Int.emod_eq_of_lt (by omega) (by omega)]; omega
    have h2 : ¬ (W - k ≤ i) := by omega
    rw [e]
    simp [h2, hi]
  · have e : (((i : Int) + k) % (W : Int)).toNat = i - (W - k) := by
      have : ((i : Int) + k) % (W : Int) = ((i : Int) + k - W) % (W : Int) := by simp
      rw [this, Int.emod_eq_of_lt (by omega) (by omega)]; omega
    have h2 : W - k ≤ i := by omega
    rw [e, high_bit h (show W ≤ k + i by omega)]
    simp [h2, hi]

def rotl (n k w : Int) : Int := Builtin.bitAnd (Builtin.bitOr (n * 2 ^ (k.fmod w).toNat) (n.fdiv (2 ^ (w - k.fmod w).toNat))) (1 * 2 ^ w.toNat - 1)
def rotr (n k w : Int) : Int := Builtin.bitAnd (Builtin.bitOr (n.fdiv (2 ^ (k.fmod w).toNat)) (n * 2 ^ (w - k.fmod w).toNat)) (1 * 2 ^ w.toNat - 1)
theorem mask_nat (W : Nat) : (1 : Int) * 2 ^ W - 1 = ((2 ^ W - 1 : Nat) : Int) := by
  have := Nat.two_pow_pos W
  rw [Int.one_mul, Int.ofNat_sub (by omega)]; simp
theorem fmod_nat {W : Nat} (k : Int) (hW : 0 < W) : ∃ K : Nat, k.fmod (W : Int) = (K : Int) ∧ K < W ∧ k % (W : Int) = K := by
  have h := emod_range hW k
  refine ⟨(k % (W : Int)).toNat, ?_, by omega, by omega⟩
  rw [Int.fmod_eq_emod_of_nonneg _ (by omega)]; omega
theorem rotl_spell {N W : Nat} (k : Int) (hW : 0 < W) (h : N < 2 ^ W) : rotl N k W = (spell (fun i => B N W ((i : Int) - k)) W : Nat) := by
  obtain ⟨K, e, hK, e2⟩ := fmod_nat k hW
  unfold rotl
  have e3 : ((W : Int) - K).toNat = W - K := by omega
  rw [e, Int.toNat_natCast, Int.toNat_natCast, e3, shl_nat, shr_nat, or_nat, mask_nat, and_nat]
  have := rotlN_spell h hK
  unfold rotlN at this
  rw [this]
  refine congrArg _ (spell_congr fun i _ => B_congr ?_)
  rw [Int.sub_emod, Int.sub_emod (i : Int) k, e2]
  congr 2
  exact Int.emod_eq_of_lt (by omega) (by omega)
theorem rotr_spell {N W : Nat} (k : Int) (hW : 0 < W) (h : N < 2 ^ W) : rotr N k W = (spell (fun i => B N W ((i : Int) + k)) W : Nat) := by
  obtain ⟨K, e, hK, e2⟩ := fmod_nat k hW
  unfold rotr
  have e3 : ((W : Int) - K).toNat = W - K := by omega
  rw [e, Int.toNat_natCast, Int.toNat_natCast, e3, shl_nat, shr_nat, or_nat, mask_nat, and_nat]
  have := rotrN_spell h hK
  unfold rotrN at this
  rw [this]
  refine congrArg _ (spell_congr fun i _ => B_congr ?_)
  rw [Int.add_emod, Int.add_emod (i : Int) k, e2]
  congr 2
  exact Int.emod_eq_of_lt (by omega) (by omega)

/-- reversed_bits: the loop's state after t turns (result, rest) -/
def revStep (p : Int × Int) : Int × Int := (Builtin.bitOr (p.1 * 2 ^ (1 : Int).toNat) (Builtin.bitAnd p.2 1), p.2.fdiv (2 ^ (1 : Int).toNat))
def revN (N : Nat) : Nat → Nat
  | 0 => 0
  | t + 1 => 2 * revN N t + (N.testBit t).toNat
theorem revN_lt (N : Nat) : ∀ t, revN N t < 2 ^ t
  | 0 => by simp [revN]
  | t + 1 => by
    have h := revN_lt N t
    have hb : (N.testBit t).toNat ≤ 1 := by cases N.testBit t <;> decide
    rw [revN, Nat.pow_succ]; omega
theorem revN_testBit (N : Nat) : ∀ t i, i < t → (revN N t).testBit i = N.testBit (t - 1 - i)
  | 0, i, h => by omega
  | t + 1, i, h => by
    have hb : (N.testBit t).toNat < 2 ^ 1 := by cases N.testBit t <;> decide
    rw [revN]
    have := Nat.testBit_two_pow_mul_add (i := 1) (revN N t) hb i
    rw [Nat.pow_one] at this
    rw [this]
    by_cases hi : i = 0
    · subst hi
      cases hN : N.testBit t <;> simp [hN]
    · have h1 : ¬ i < 1 := by omega
      rw [if_neg h1, revN_testBit N t (i - 1) (by omega)]
      congr 1; omega
theorem revN_spell (N W : Nat) (hW : 0 < W) : revN N W = spell (fun i => B N W (-1 - (i : Int))) W := by
  refine eq_spell (revN_lt _ _) fun i hi => ?_
  rw [revN_testBit N W i hi]
  unfold B
  have : (-1 - (i : Int)) % (W : Int) = (-1 - (i : Int) + W) % (W : Int) := by simp
  rw [this, Int.emod_eq_of_lt (by omega) (by omega)]
  congr 1; omega
theorem rev_step (N t : Nat) : revStep ((revN N t : Int), ((N >>> t : Nat) : Int)) = ((revN N (t + 1) : Int), ((N >>> (t + 1) : Nat) : Int)) := by
  unfold revStep
  have e1 : (1 : Int).toNat = 1 := rfl
  have e2 : (1 : Int) = ((1 : Nat) : Int) := rfl
  refine Prod.ext ?_ ?_
  · show Builtin.bitOr ((revN N t : Int) * 2 ^ (1 : Int).toNat) (Builtin.bitAnd ((N >>> t : Nat) : Int) 1) = _
    rw [e1, shl_nat, e2, and_nat, or_nat]
    congr 1
    rw [revN, Nat.and_one_is_mod, Nat.shiftLeft_eq, Nat.pow_one, Nat.mul_comm]
    have hb : (N >>> t) % 2 < 2 ^ 1 := Nat.mod_lt _ (by decide)
    have := (Nat.two_pow_add_eq_or_of_lt hb (revN N t)).symm
    rw [Nat.pow_one] at this
    rw [this]
    congr 1
    rw [Nat.testBit_eq_decide_div_mod_eq, Nat.shiftRight_eq_div_pow]
    have : N / 2 ^ t % 2 < 2 := Nat.mod_lt _ (by decide)
    by_cases h : N / 2 ^ t % 2 = 1
    · simp [h]
    · have : N / 2 ^ t % 2 = 0 := by omega
      simp [this]
  · show (((N >>> t : Nat) : Int)).fdiv (2 ^ (1 : Int).toNat) = _
    rw [e1, shr_nat]
    congr 1
def rev (n w : Int) : Int := (Nat.repeat revStep w.toNat (0, n)).1
theorem rev_rep (N : Nat) : ∀ t, Nat.repeat revStep t ((0 : Int), (N : Int)) = ((revN N t : Int), ((N >>> t : Nat) : Int))
  | 0 => by simp [Nat.repeat, revN]
  | t + 1 => by rw [Nat.repeat, rev_rep N t, rev_step]
theorem rev_nat (N W : Nat) : rev N W = (revN N W : Int) := by
  unfold rev; rw [Int.toNat_natCast, rev_rep]
theorem rev_spell (N W : Nat) (hW : 0 < W) : rev N W = (spell (fun i => B N W (-1 - (i : Int))) W : Nat) := by rw [rev_nat, revN_spell N W hW]

theorem B_sub {W : Nat} (N : Nat) (c : Int) (z : Int) : B N W (z % (W : Int) - c) = B N W (z - c) := B_congr (by rw [Int.sub_emod, Int.emod_emod, ← Int.sub_emod])
theorem B_add {W : Nat} (N : Nat) (c : Int) (z : Int) : B N W (z % (W : Int) + c) = B N W (z + c) := B_congr (by rw [Int.add_emod, Int.emod_emod, ← Int.add_emod])
theorem B_neg {W : Nat} (N : Nat) (c : Int) (z : Int) : B N W (c - z % (W : Int)) = B N W (c - z) := B_congr (by rw [Int.sub_emod, Int.emod_emod, ← Int.sub_emod])

theorem two_rotl {N W : Nat} (j k : Int) (hW : 0 < W) (h : N < 2 ^ W) : rotl (rotl N j W) k W = (spell (fun i => B N W ((i : Int) - j - k)) W : Nat) := by
  rw [rotl_spell j hW h, rotl_spell k hW (spell_lt _ _)]
  congr 1
  refine spell_congr fun i _ => ?_
  rw [B_spell hW (fun z => B N W (z - j)) (fun z => B_sub N j z)]
  exact B_congr (congrArg (· % (W : Int)) (by omega))
theorem sum_rotl {N W : Nat} (j k : Int) (hW : 0 < W) (h : N < 2 ^ W) : rotl N (j + k) W = (spell (fun i => B N W ((i : Int) - j - k)) W : Nat) := by
  rw [rotl_spell _ hW h]
  congr 1
  exact spell_congr fun i _ => B_congr (congrArg (· % (W : Int)) (by omega))
theorem mirror_rot {N W : Nat} (k : Int) (hW : 0 < W) (h : N < 2 ^ W) : rev (rotl (rev N W) k W) W = rotr N k W := by
  rw [rev_spell N W hW, rotl_spell k hW (spell_lt _ _), rev_spell _ W hW, rotr_spell k hW h]
  congr 1
  refine spell_congr fun i _ => ?_
  rw [B_spell hW (fun z => B (spell (fun i => B N W (-1 - (i : Int))) W) W (z - k)) (fun z => B_sub _ k z)]
  rw [B_spell hW (fun z => B N W (-1 - z)) (fun z => B_neg N (-1) z)]
  exact B_congr (congrArg (· % (W : Int)) (by omega))
theorem rot_back {N W : Nat} (k : Int) (hW : 0 < W) (h : N < 2 ^ W) : rotr (rotl N k W) k W = N := by
  rw [rotl_spell k hW h, rotr_spell k hW (spell_lt _ _)]
  congr 1
  conv => rhs; rw [self_spell h]
  refine spell_congr fun i _ => ?_
  rw [B_spell hW (fun z => B N W (z - k)) (fun z => B_sub N k z)]
  exact B_congr (congrArg (· % (W : Int)) (by omega))
theorem rev_rev {N W : Nat} (hW : 0 < W) (h : N < 2 ^ W) : rev (rev N W) W = N := by
  rw [rev_spell N W hW, rev_spell _ W hW]
  congr 1
  conv => rhs; rw [self_spell h]
  refine spell_congr fun i _ => ?_
  rw [B_spell hW (fun z => B N W (-1 - z)) (fun z => B_neg N (-1) z)]
  exact B_congr (congrArg (· % (W : Int)) (by omega))

/-- the list of bits, as the law builds it -/
def bitsOf (n w : Int) : List Int := (List.range w.toNat).map fun (i : Nat) => (n.fdiv (2 ^ i)).fmod 2
theorem bitsOf_get {N W i : Nat} (h : i < W) : (bitsOf N W).getD i 0 = ib (N.testBit i) := by
  unfold bitsOf
  rw [List.getD_eq_getElem?_getD, List.getElem?_map, List.getElem?_range (by simpa using h)]
  exact bit_of N i
theorem bitsOf_len (n : Int) (W : Nat) : (bitsOf n W).length = W := by simp [bitsOf]
/-- a list of W places spelled -/
theorem spelled_of {N W : Nat} (hW : 0 < W) (g : Int → Int) : ((List.range W).map fun (i : Nat) => (bitsOf N W).getD ((g i).fmod W).toNat 0 * (2 : Int) ^ i).sum = (spell (fun i => B N W (g i)) W : Nat) := by
  rw [← sum_spell]
  congr 1
  refine List.map_congr_left fun i _ => ?_
  have h := emod_range hW (g i)
  rw [Int.fmod_eq_emod_of_nonneg _ (by omega), bitsOf_get (by omega)]
  rfl
theorem spelled_rev {N W : Nat} (hW : 0 < W) : ((List.range W).map fun (i : Nat) => (bitsOf N W).getD ((W : Int) - 1 - i).toNat 0 * (2 : Int) ^ i).sum = (spell (fun i => B N W (-1 - (i : Int))) W : Nat) := by
  rw [← sum_spell]
  congr 1
  refine List.map_congr_left fun i hi => ?_
  have hi := List.mem_range.mp hi
  rw [bitsOf_get (by omega)]
  unfold B
  have : (-1 - (i : Int)) % (W : Int) = (-1 - (i : Int) + W) % (W : Int) := by simp
  rw [this, Int.emod_eq_of_lt (by omega) (by omega)]
  congr 3; omega
def cell5 (ns : List Int) (i : Int) : Int := if i < ns.length then ns.getD i.toNat 0 else i * 5 + 3
def word2 (kind a b w : Int) : Int :=
  if kind = 0 then 1 else if kind = 1 then 2 ^ (w - 1).toNat else if kind = 2 then ((2 : Int) ^ (a.fmod w).toNat + 2 ^ (b.fmod w).toNat).fmod (2 ^ w.toNat)
  else if kind = 3 then 2 ^ w.toNat - 1 - 2 ^ (a.fmod w).toNat else if kind = 4 then a.fmod (2 ^ w.toNat)
  else (a.fmod (2 ^ (64 : Int).toNat) * 11400714819323198485 + b).fmod (2 ^ w.toNat)
def dist2 (kind a w : Int) : Int :=
  if kind = 0 then 0 else if kind = 1 then w else if kind = 2 then w * a.fmod ((100 : Int).fdiv w + 1) else if kind = 3 then w + a.fmod (101 - w) else if kind = 4 then a.fmod w else a.fmod 101
theorem fmod_range (y : Int) {m : Int} (hm : 0 < m) : 0 ≤ y.fmod m ∧ y.fmod m < m := by
  rw [Int.fmod_eq_emod_of_nonneg _ (by omega)]
  exact ⟨Int.emod_nonneg _ (by omega), Int.emod_lt_of_pos _ hm⟩
theorem pw_pos (k : Nat) : (0 : Int) < 2 ^ k := Int.pow_pos (by decide)
theorem pw_lt {a b : Nat} (h : a < b) : (2 : Int) ^ a < 2 ^ b := by
  have := Nat.pow_lt_pow_right (a := 2) (by decide) h
  exact_mod_cast this
theorem pw_le {a b : Nat} (h : a ≤ b) : (2 : Int) ^ a ≤ 2 ^ b := by
  have := Nat.pow_le_pow_right (n := 2) (by decide) h
  exact_mod_cast this
theorem word2_range (kind a b : Int) {w : Int} (h1 : 1 ≤ w) : 0 ≤ word2 kind a b w ∧ word2 kind a b w < 2 ^ w.toNat := by
  have hp := pw_pos w.toNat
  unfold word2
  split
  · exact ⟨by decide, by have := pw_le (show 1 ≤ w.toNat by omega); omega⟩
  split
  · exact ⟨Int.le_of_lt (pw_pos _), pw_lt (by omega)⟩
  split
  · exact fmod_range _ hp
  split
  · have h := fmod_range a (show 0 < w by omega)
    have := pw_lt (show (a.fmod w).toNat < w.toNat by omega)
    have := pw_pos (a.fmod w).toNat
    omega
  split
  · exact fmod_range _ hp
  · exact fmod_range _ hp
theorem gen_n {kind a b w : Int} {R : Int → Prop} (h1 : 1 ≤ w) (h : ∀ N : Int, 0 ≤ N → N < 2 ^ w.toNat → R N) : R (word2 kind a b w) :=
  h _ (word2_range kind a b h1).1 (word2_range kind a b h1).2
theorem gen_d {kind a w : Int} {R : Int → Prop} (h : ∀ D : Int, R D) : R (dist2 kind a w) := h _
theorem gen_w {i : Int} {R : Int → Prop} (h0 : 0 ≤ i) (h8 : i < 8) (h : ∀ W : Int, 1 ≤ W → W ≤ 64 → R W) : R (([1, 2, 3, 5, 8, 13, 32, 64] : List Int).getD i.toNat 0) := by
  have hi : i.toNat < 8 := by omega
  have key : ∀ n : Nat, n < 8 → 1 ≤ ([1, 2, 3, 5, 8, 13, 32, 64] : List Int).getD n 0 ∧ ([1, 2, 3, 5, 8, 13, 32, 64] : List Int).getD n 0 ≤ 64 := by decide
  exact h _ (key _ hi).1 (key _ hi).2
theorem fdiv_one_pos {w : Int} (h : 1 ≤ w) : (100 : Int).fdiv w + 1 ≠ 0 := by
  rw [Int.fdiv_eq_ediv_of_nonneg _ (by omega)]
  have := Int.ediv_nonneg (show (0 : Int) ≤ 100 by decide) (show 0 ≤ w by omega)
  omega
/-- reversed_bits -/
def revI (n w : Int) : Int := (revN n.toNat w.toNat : Int)
theorem revI_range (n w : Int) : 0 ≤ revI n w ∧ revI n w < 2 ^ w.toNat := by
  unfold revI
  have := revN_lt n.toNat w.toNat
  refine ⟨by omega, ?_⟩
  exact_mod_cast this
theorem rotl_range (n k : Int) {w : Int} (h1 : 1 ≤ w) (h0 : 0 ≤ n) (h : n < 2 ^ w.toNat) : 0 ≤ rotl n k w ∧ rotl n k w < 2 ^ w.toNat := by
  obtain ⟨N, rfl⟩ := Int.eq_ofNat_of_zero_le h0
  obtain ⟨W, rfl⟩ := Int.eq_ofNat_of_zero_le (show 0 ≤ w by omega)
  rw [rotl_spell k (by omega) (by exact_mod_cast h)]
  have := spell_lt (fun i => B N W ((i : Int) - k)) W
  refine ⟨by omega, ?_⟩
  exact_mod_cast this
theorem rotr_range (n k : Int) {w : Int} (h1 : 1 ≤ w) (h0 : 0 ≤ n) (h : n < 2 ^ w.toNat) : 0 ≤ rotr n k w ∧ rotr n k w < 2 ^ w.toNat := by
  obtain ⟨N, rfl⟩ := Int.eq_ofNat_of_zero_le h0
  obtain ⟨W, rfl⟩ := Int.eq_ofNat_of_zero_le (show 0 ≤ w by omega)
  rw [rotr_spell k (by omega) (by exact_mod_cast h)]
  have := spell_lt (fun i => B N W ((i : Int) + k)) W
  refine ⟨by omega, ?_⟩
  exact_mod_cast this
/-- the loop of reversed_bits: start and turn -/
theorem rev_start {n : Int} (h : 0 ≤ n) : (0 : Int) = (revN n.toNat ([] : List Int).length : Int) ∧ n = ((n.toNat >>> ([] : List Int).length : Nat) : Int) := by
  refine ⟨rfl, ?_⟩
  show n = ((n.toNat >>> 0 : Nat) : Int)
  rw [Nat.shiftRight_zero]; omega
theorem rev_turn {n0 r n i : Int} {pre : List Int} (h : r = (revN n0.toNat pre.length : Int) ∧ n = ((n0.toNat >>> pre.length : Nat) : Int)) :
    Builtin.bitOr (r * 2 ^ (1 : Int).toNat) (Builtin.bitAnd n 1) = (revN n0.toNat (pre ++ [i]).length : Int) ∧ n.fdiv (2 ^ (1 : Int).toNat) = ((n0.toNat >>> (pre ++ [i]).length : Nat) : Int) := by
  have e := rev_step n0.toNat pre.length
  rw [List.length_append, h.1, h.2]
  exact ⟨congrArg Prod.fst e, congrArg Prod.snd e⟩
theorem rev_small {n0 r n : Int} {pre : List Int} (h : r = (revN n0.toNat pre.length : Int) ∧ n = ((n0.toNat >>> pre.length : Nat) : Int)) (hp : pre.length ≤ 64) : r.natAbs < 2 ^ 64 := by
  have := revN_lt n0.toNat pre.length
  have h2 := Nat.pow_le_pow_right (n := 2) (by decide) hp
  rw [h.1]; omega
theorem small_of {n w : Int} (h0 : 0 ≤ n) (h : n < 2 ^ w.toNat) (hw : w ≤ 64) : n.natAbs < 2 ^ 64 := by
  have h2 := pw_le (show w.toNat ≤ 64 by omega)
  have : (n.natAbs : Int) < 2 ^ 64 := by omega
  exact_mod_cast this

/-! the ends -/
theorem nn {n w : Int} (h1 : 1 ≤ w) (h0 : 0 ≤ n) (h : n < 2 ^ w.toNat) : ∃ N W : Nat, n = N ∧ w = W ∧ 0 < W ∧ N < 2 ^ W := by
  obtain ⟨N, rfl⟩ := Int.eq_ofNat_of_zero_le h0
  obtain ⟨W, rfl⟩ := Int.eq_ofNat_of_zero_le (show 0 ≤ w by omega)
  exact ⟨N, W, rfl, rfl, by omega, by exact_mod_cast h⟩
theorem revI_nat (N W : Nat) : revI N W = (revN N W : Int) := rfl
theorem e_mirror {n k w : Int} (h1 : 1 ≤ w) (h0 : 0 ≤ n) (h : n < 2 ^ w.toNat) : revI (rotl (revI n w) k w) w = rotr n k w := by
  obtain ⟨N, W, rfl, rfl, hW, hN⟩ := nn h1 h0 h
  have e := mirror_rot k hW hN
  rw [rev_nat] at e
  have e2 : revI N W = (revN N W : Int) := rfl
  rw [e2, rotl_spell k hW (revN_lt _ _)]
  rw [rotl_spell k hW (revN_lt _ _), rev_nat] at e
  exact e
theorem e_back {n k w : Int} (h1 : 1 ≤ w) (h0 : 0 ≤ n) (h : n < 2 ^ w.toNat) : rotr (rotl n k w) k w = n := by
  obtain ⟨N, W, rfl, rfl, hW, hN⟩ := nn h1 h0 h
  exact rot_back k hW hN
theorem e_revrev {n w : Int} (h1 : 1 ≤ w) (h0 : 0 ≤ n) (h : n < 2 ^ w.toNat) : revI (revI n w) w = n := by
  obtain ⟨N, W, rfl, rfl, hW, hN⟩ := nn h1 h0 h
  have e := rev_rev hW hN
  rw [rev_nat, rev_nat] at e
  exact e
theorem e_two {n j k w : Int} (h1 : 1 ≤ w) (h0 : 0 ≤ n) (h : n < 2 ^ w.toNat) : rotl (rotl n j w) k w = rotl n (j + k) w := by
  obtain ⟨N, W, rfl, rfl, hW, hN⟩ := nn h1 h0 h
  rw [two_rotl j k hW hN, sum_rotl j k hW hN]
theorem sub_fmod (k : Int) {w : Int} (h : 1 ≤ w) : 0 ≤ w - k.fmod w ∧ w - k.fmod w ≤ w := by
  have := fmod_range k (show 0 < w by omega)
  omega
/-! the lists, as the walk writes them -/
def rk (a : Int) (n : Nat) : List Int := (List.range n).map fun (i : Nat) => a + (i : Int)
theorem rk_map (f : Int → Int) (n : Nat) : (rk 0 n).map f = (List.range n).map fun (i : Nat) => f i := by
  unfold rk
  rw [List.map_map]
  refine List.map_congr_left fun i _ => ?_
  show f (0 + (i : Int)) = f i
  rw [Int.zero_add]
theorem rk_get (f : Int → Int) {n i : Nat} (h : i < n) : ((rk 0 n).map f).getD i 0 = f i := by
  rw [rk_map, List.getD_eq_getElem?_getD, List.getElem?_map, List.getElem?_range h]; rfl
/-- the sum of a list of places, spelled -/
theorem spelled_rk (f : Int → Int) (n : Nat) : ((rk 0 n).map fun i => ((rk 0 n).map f).getD i.toNat 0 * (2 : Int) ^ i.toNat).sum = ((List.range n).map fun (i : Nat) => f i * (2 : Int) ^ i).sum := by
  rw [rk_map]
  congr 1
  refine List.map_congr_left fun i hi => ?_
  rw [Int.toNat_natCast, rk_get f (List.mem_range.mp hi)]
theorem bits_rk (n : Int) (W : Nat) : ((rk 0 W).map fun k => (n.fdiv (2 ^ k.toNat)).fmod 2) = bitsOf n W := by
  rw [rk_map]
  unfold bitsOf
  rw [Int.toNat_natCast]
  simp only [Int.toNat_natCast]
theorem and_range (x : Int) (m : Nat) : 0 ≤ Builtin.bitAnd x (m : Int) ∧ Builtin.bitAnd x (m : Int) ≤ m := by
  have hm : decide ((0 : Int) ≤ (m : Int)) = true := by simp
  unfold Builtin.bitAnd
  rw [hm]
  cases decide (0 ≤ x) with
  | true =>
    have := @Nat.and_le_right x.toNat ((m : Int)).toNat
    show 0 ≤ ((x.toNat &&& ((m : Int)).toNat : Nat) : Int) ∧ ((x.toNat &&& ((m : Int)).toNat : Nat) : Int) ≤ m
    rw [Int.toNat_natCast] at *
    omega
  | false =>
    have := @Nat.and_le_left ((m : Int)).toNat (Builtin.bitNot x).toNat
    show 0 ≤ (m : Int) - ((((m : Int)).toNat &&& (Builtin.bitNot x).toNat : Nat) : Int) ∧ (m : Int) - ((((m : Int)).toNat &&& (Builtin.bitNot x).toNat : Nat) : Int) ≤ m
    rw [Int.toNat_natCast] at *
    omega
theorem mask_range (x w : Int) : 0 ≤ Builtin.bitAnd x (1 * 2 ^ w.toNat - 1) ∧ Builtin.bitAnd x (1 * 2 ^ w.toNat - 1) < 2 ^ w.toNat := by
  have h := and_range x (2 ^ w.toNat - 1)
  rw [← mask_nat] at h
  omega
theorem rotl_range' (n k w : Int) : 0 ≤ rotl n k w ∧ rotl n k w < 2 ^ w.toNat := mask_range _ w
theorem rotr_range' (n k w : Int) : 0 ≤ rotr n k w ∧ rotr n k w < 2 ^ w.toNat := mask_range _ w
def RevInv (n0 : Int) (k : Nat) (r n : Int) : Prop := r = (revN n0.toNat k : Int) ∧ n = ((n0.toNat >>> k : Nat) : Int)
theorem ri_start {n : Int} (h : 0 ≤ n) : RevInv n ([] : List Int).length 0 n := rev_start h
theorem ri_turn {n0 r n i : Int} {pre : List Int} (h : RevInv n0 pre.length r n) : RevInv n0 (pre ++ [i]).length (Builtin.bitOr (r * 2 ^ (1 : Int).toNat) (Builtin.bitAnd n 1)) (n.fdiv (2 ^ (1 : Int).toNat)) := rev_turn h
theorem ri_small {n0 r n : Int} {pre : List Int} (h : RevInv n0 pre.length r n) (hp : pre.length ≤ 64) : r.natAbs < 2 ^ 64 := rev_small h hp
theorem ri_end {n0 w r n : Int} {k : Nat} (h : RevInv n0 k r n) (hk : k = w.toNat) : r = revI n0 w := by
  rw [h.1, hk]; rfl
/-- a list of digits, lowest first, as a number -/
def val : List Int → Int
  | [] => 0
  | a :: r => a + 2 * val r
theorem val_append (l : List Int) (x : Int) : val (l ++ [x]) = val l + x * 2 ^ l.length := by
  induction l with
  | nil => simp [val]
  | cons a r ih =>
    rw [List.cons_append, val, val, ih, List.length_cons, Int.pow_succ, Int.mul_add, ← Int.mul_assoc x, Int.mul_comm 2 (x * 2 ^ r.length)]
    omega
theorem val_spell (f : Nat → Bool) : ∀ w, val ((List.range w).map fun i => ib (f i)) = (spell f w : Int)
  | 0 => rfl
  | w + 1 => by
    rw [List.range_succ, List.map_append, List.map_singleton, val_append, val_spell f w, spell]
    simp [ib]
theorem list_of {l : List Int} {w : Nat} {g : Nat → Int} (hl : l.length = w) (h : ∀ i, i < w → l.getD i 0 = g i) : l = (List.range w).map g := by
  refine List.ext_getElem (by simp [hl]) fun i h1 h2 => ?_
  have hi : i < w := by omega
  have := h i hi
  rw [List.getD_eq_getElem?_getD, List.getElem?_eq_getElem h1] at this
  simpa using this

def tgN (N : Nat) : Nat := N ^^^ (N >>> 1)
theorem tgN_testBit (N i : Nat) : (tgN N).testBit i = (N.testBit i ^^ N.testBit (i + 1)) := by
  unfold tgN
  rw [Nat.testBit_xor, Nat.testBit_shiftRight, Nat.add_comm 1 i]
theorem tgN_lt {N W : Nat} (h : N < 2 ^ W) : tgN N < 2 ^ W := by
  unfold tgN
  refine Nat.xor_lt_two_pow h (Nat.lt_of_le_of_lt ?_ h)
  rw [Nat.shiftRight_eq_div_pow]; exact Nat.div_le_self _ _
theorem tgN_inj {M N : Nat} (h : tgN M = tgN N) : M = N := by
  -- the top bits agree (both 0); go down
  have key : ∀ d i, M < 2 ^ (i + d) → N < 2 ^ (i + d) → M.testBit i = N.testBit i := by
    intro d
    induction d with
    | zero => intro i hM hN; rw [high_bit (i := i) hM (Nat.le_refl _), high_bit (i := i) hN (Nat.le_refl _)]
    | succ d ih =>
      intro i hM hN
      have e := ih (i + 1) (by rw [Nat.add_right_comm]; exact hM) (by rw [Nat.add_right_comm]; exact hN)
      have e2 := congrArg (fun x => x.testBit i) h
      simp only [tgN_testBit, e] at e2
      cases h1 : M.testBit i <;> cases h2 : N.testBit i <;> cases h3 : N.testBit (i + 1) <;> simp_all
  refine Nat.eq_of_testBit_eq fun i => key (M + N) i ?_ ?_
  · exact Nat.lt_of_lt_of_le Nat.lt_two_pow_self (Nat.pow_le_pow_right (by decide) (by omega))
  · exact Nat.lt_of_lt_of_le Nat.lt_two_pow_self (Nat.pow_le_pow_right (by decide) (by omega))
def fgT (G : Nat) : Nat → Nat
  | 0 => 0
  | t + 1 => fgT G t ^^^ (G >>> t)
theorem shr_xor (a b k : Nat) : (a ^^^ b) >>> k = (a >>> k) ^^^ (b >>> k) := by
  refine Nat.eq_of_testBit_eq fun i => ?_
  simp [Nat.testBit_xor, Nat.testBit_shiftRight]
/-- the invariant of from_gray's loop -/
theorem fg_turn {n g G : Nat} (h : tgN n ^^^ g = G) : tgN (n ^^^ g) ^^^ (g >>> 1) = G := by
  rw [← h]
  unfold tgN
  rw [shr_xor]
  refine Nat.eq_of_testBit_eq fun i => ?_
  simp only [Nat.testBit_xor, Nat.testBit_shiftRight]
  cases n.testBit i <;> cases n.testBit (1 + i) <;> cases g.testBit i <;> cases g.testBit (1 + i) <;> rfl
theorem fgT_inv (G : Nat) : ∀ t, tgN (fgT G t) ^^^ (G >>> t) = G
  | 0 => by simp [fgT, tgN]
  | t + 1 => by
    have h := fg_turn (fgT_inv G t)
    rw [fgT, Nat.shiftRight_add]
    exact h
def fgN (G : Nat) : Nat := fgT G G
theorem fgN_tg (G : Nat) : tgN (fgN G) = G := by
  have h := fgT_inv G G
  have z : G >>> G = 0 := by
    rw [Nat.shiftRight_eq_div_pow]
    exact Nat.div_eq_of_lt Nat.lt_two_pow_self
  rw [z, Nat.xor_zero] at h
  exact h
theorem fgN_of {n G : Nat} (h : tgN n = G) : n = fgN G := tgN_inj (h.trans (fgN_tg G).symm)
theorem fgN_tgN (N : Nat) : fgN (tgN N) = N := (fgN_of rfl).symm
theorem fgN_lt {G W : Nat} (h : G < 2 ^ W) : fgN G < 2 ^ W := by
  -- the spelled running xors are below 2 ^ W and have the same code
  have key : ∀ t, fgT G t < 2 ^ W := by
    intro t
    induction t with
    | zero => exact Nat.two_pow_pos W
    | succ t ih =>
      refine Nat.xor_lt_two_pow ih (Nat.lt_of_le_of_lt ?_ h)
      rw [Nat.shiftRight_eq_div_pow]; exact Nat.div_le_self _ _
  exact key G

/-- the xor of the bits i .. i + d - 1 -/
def xr (N : Nat) (i : Nat) : Nat → Bool
  | 0 => false
  | d + 1 => xr N i d ^^ N.testBit (i + d)
theorem xr_head (N i : Nat) : ∀ d, xr N i (d + 1) = (N.testBit i ^^ xr N (i + 1) d)
  | 0 => by simp [xr]
  | d + 1 => by
    rw [xr, xr_head N i d, xr, Bool.xor_assoc, Nat.add_right_comm, Nat.add_assoc]
theorem xr_high {N W : Nat} (h : N < 2 ^ W) {i : Nat} (hi : W ≤ i) : ∀ d, xr N i d = false
  | 0 => rfl
  | d + 1 => by rw [xr, xr_high h hi d, high_bit h (by omega)]; rfl
theorem xr_add (N i : Nat) (a : Nat) : ∀ b, xr N i (a + b) = (xr N i a ^^ xr N (i + a) b)
  | 0 => by simp [xr]
  | b + 1 => by rw [← Nat.add_assoc, xr, xr_add N i a b, xr, Bool.xor_assoc, Nat.add_assoc i a b]
theorem xr_shift (N t i : Nat) : ∀ d, xr (N >>> t) i d = xr N (i + t) d
  | 0 => rfl
  | d + 1 => by
    rw [xr, xr_shift N t i d, xr, Nat.testBit_shiftRight]
    congr 2; omega
theorem xr_xor (M N i : Nat) : ∀ d, xr (M ^^^ N) i d = (xr M i d ^^ xr N i d)
  | 0 => rfl
  | d + 1 => by
    rw [xr, xr_xor M N i d, xr, xr, Nat.testBit_xor]
    cases xr M i d <;> cases xr N i d <;> cases M.testBit (i + d) <;> cases N.testBit (i + d) <;> rfl
theorem xr_double (N t : Nat) : xr (N ^^^ (N >>> t)) 0 t = xr N 0 (t + t) := by
  rw [xr_xor, xr_shift, xr_add]
/-- the running sums from the top spell from_gray -/
theorem run_spell {N W : Nat} (h : N < 2 ^ W) : spell (fun i => xr N i (W - i)) W = fgN N := by
  refine fgN_of (Nat.eq_of_testBit_eq fun i => ?_)
  rw [tgN_testBit, spell_testBit, spell_testBit]
  by_cases hi : i < W
  · have e : W - i = (W - (i + 1)) + 1 := by omega
    rw [e, xr_head]
    by_cases h2 : i + 1 < W
    · simp only [hi, h2, decide_true, Bool.true_and]
      cases N.testBit i <;> cases xr N (i + 1) (W - (i + 1)) <;> rfl
    · have e0 : W - (i + 1) = 0 := by omega
      simp only [hi, h2, decide_true, decide_false, Bool.true_and, Bool.false_and, e0, xr]
      cases N.testBit i <;> rfl
  · have h2 : ¬ i + 1 < W := by omega
    simp [hi, h2, high_bit h (Nat.le_of_not_lt hi)]

def parN (N : Nat) : Nat :=
  let a := N ^^^ (N >>> 32)
  let b := a ^^^ (a >>> 16)
  let c := b ^^^ (b >>> 8)
  let d := c ^^^ (c >>> 4)
  let e := d ^^^ (d >>> 2)
  let f := e ^^^ (e >>> 1)
  f &&& 1
theorem and_one_bit (N : Nat) : N &&& 1 = (xr N 0 1).toNat := by
  rw [Nat.and_one_is_mod, xr, xr, Nat.testBit_eq_decide_div_mod_eq]
  have : N % 2 < 2 := Nat.mod_lt _ (by decide)
  by_cases h : N % 2 = 1
  · simp [h]
  · have : N % 2 = 0 := by omega
    simp [this]
theorem parN_eq (N : Nat) : parN N = (xr N 0 64).toNat := by
  unfold parN
  simp only [and_one_bit]
  rw [xr_double _ 1, xr_double _ 2, xr_double _ 4, xr_double _ 8, xr_double _ 16, xr_double _ 32]
theorem par_w {N W : Nat} (h : N < 2 ^ W) (hW : W ≤ 64) : parN N = (xr N 0 W).toNat := by
  have e : 64 = W + (64 - W) := by omega
  rw [parN_eq]
  conv => lhs; rw [e]
  rw [xr_add, xr_high h (show W ≤ 0 + W by omega)]
  simp
/-- sums of bits, mod 2 -/
theorem sum_mod (N i : Nat) : ∀ d, (((List.range d).map fun k => ib (N.testBit (i + k))).sum) % 2 = ib (xr N i d)
  | 0 => rfl
  | d + 1 => by
    have h := sum_mod N i d
    rw [List.range_succ, List.map_append, List.sum_append, Int.add_emod, h]
    simp only [List.map_cons, List.map_nil, List.sum_cons, List.sum_nil, xr]
    cases xr N i d <;> cases N.testBit (i + d) <;> rfl

theorem inv_testBit {N W i : Nat} (h : N < 2 ^ W) : (2 ^ W - 1 - N).testBit i = (decide (i < W) && !N.testBit i) := by
  have : 2 ^ W - 1 - N = 2 ^ W - (N + 1) := by omega
  rw [this, Nat.testBit_two_pow_sub_succ h]
theorem tg_inv {N W : Nat} (hW : 0 < W) (h : N < 2 ^ W) : tgN (2 ^ W - 1 - N) = spell (fun i => if i = W - 1 then !(tgN N).testBit i else (tgN N).testBit i) W := by
  refine eq_spell (tgN_lt (by omega)) fun i hi => ?_
  rw [tgN_testBit, inv_testBit h, inv_testBit h, tgN_testBit]
  by_cases e : i = W - 1
  · have h2 : ¬ i + 1 < W := by omega
    rw [high_bit h (show W ≤ i + 1 by omega)]
    simp [e]
    have : ¬ W - 1 + 1 < W := by omega
    have h3 : W - 1 < W := by omega
    simp [this, h3]
  · have h2 : i + 1 < W := by omega
    simp only [hi, h2, e, decide_true, Bool.true_and, if_false]
    cases N.testBit i <;> cases N.testBit (i + 1) <;> rfl
theorem flip_tg {G W : Nat} (hW : 0 < W) (h : G < 2 ^ W) : G ^^^ (1 <<< (W - 1)) = spell (fun i => if i = W - 1 then !G.testBit i else G.testBit i) W := by
  refine eq_spell ?_ fun i hi => ?_
  · refine Nat.xor_lt_two_pow h ?_
    rw [Nat.one_shiftLeft]
    exact Nat.pow_lt_pow_right (by decide) (by omega)
  · rw [Nat.testBit_xor, Nat.one_shiftLeft, Nat.testBit_two_pow]
    by_cases e : i = W - 1
    · simp [e]
    · have : ¬ W - 1 = i := by omega
      simp [e, this]
def tgI (n : Int) : Int := (tgN n.toNat : Int)
def fgI (n : Int) : Int := (fgN n.toNat : Int)
def parI (n : Int) : Int := (parN n.toNat : Int)
theorem e1 : (1 : Int).toNat = 1 := rfl
theorem tgI_eq {n : Int} (h : 0 ≤ n) : Builtin.bitXor n (n.fdiv (2 ^ (1 : Int).toNat)) = tgI n := by
  obtain ⟨N, rfl⟩ := Int.eq_ofNat_of_zero_le h
  unfold tgI tgN
  rw [e1, shr_nat, xor_nat, Int.toNat_natCast]
theorem tgI_nn (n : Int) : 0 ≤ tgI n := by unfold tgI; omega
theorem fgI_nn (n : Int) : 0 ≤ fgI n := by unfold fgI; omega
/-- the while of from_gray -/
def FgInv (g0 n g : Int) : Prop := 0 ≤ n ∧ 0 ≤ g ∧ tgN n.toNat ^^^ g.toNat = g0.toNat
theorem fg_start {g0 : Int} (h : 0 ≤ g0) : FgInv g0 0 g0 := ⟨by omega, h, by simp [tgN]⟩
theorem fg_step {g0 n g : Int} (h : FgInv g0 n g) : FgInv g0 (Builtin.bitXor n g) (g.fdiv (2 ^ (1 : Int).toNat)) := by
  obtain ⟨h1, h2, h3⟩ := h
  obtain ⟨N, rfl⟩ := Int.eq_ofNat_of_zero_le h1
  obtain ⟨G, rfl⟩ := Int.eq_ofNat_of_zero_le h2
  unfold FgInv
  rw [e1, shr_nat, xor_nat]
  simp only [Int.toNat_natCast] at *
  exact ⟨by omega, by omega, fg_turn h3⟩
theorem fg_end {g0 n g : Int} (h : FgInv g0 n g) (hg : ¬ g > 0) : n = fgI g0 := by
  obtain ⟨h1, h2, h3⟩ := h
  have : g.toNat = 0 := by omega
  rw [this, Nat.xor_zero] at h3
  unfold fgI
  rw [← fgN_of h3]; omega
theorem fg_less {g : Int} (h : g > 0) : (g.fdiv (2 ^ (1 : Int).toNat)).toNat < g.toNat := by
  obtain ⟨G, rfl⟩ := Int.eq_ofNat_of_zero_le (show 0 ≤ g by omega)
  rw [e1, shr_nat, Nat.shiftRight_eq_div_pow]
  simp only [Int.toNat_natCast]
  omega
/-- parity, as python's terms -/
def parT (n : Int) : Int :=
  let a := Builtin.bitXor n (n.fdiv (2 ^ (32 : Int).toNat))
  let b := Builtin.bitXor a (a.fdiv (2 ^ (16 : Int).toNat))
  let c := Builtin.bitXor b (b.fdiv (2 ^ (8 : Int).toNat))
  let d := Builtin.bitXor c (c.fdiv (2 ^ (4 : Int).toNat))
  let e := Builtin.bitXor d (d.fdiv (2 ^ (2 : Int).toNat))
  let f := Builtin.bitXor e (e.fdiv (2 ^ (1 : Int).toNat))
  Builtin.bitAnd f 1
theorem xs_nat (N : Nat) (k : Int) (K : Nat) (h : k.toNat = K) : Builtin.bitXor (N : Int) ((N : Int).fdiv (2 ^ k.toNat)) = ((N ^^^ (N >>> K) : Nat) : Int) := by
  rw [h, shr_nat, xor_nat]
theorem parT_eq {n : Int} (h : 0 ≤ n) : parT n = parI n := by
  obtain ⟨N, rfl⟩ := Int.eq_ofNat_of_zero_le h
  unfold parI parN parT
  have o : (1 : Int) = ((1 : Nat) : Int) := rfl
  simp only [xs_nat _ 32 32 rfl, xs_nat _ 16 16 rfl, xs_nat _ 8 8 rfl, xs_nat _ 4 4 rfl, xs_nat _ 2 2 rfl, xs_nat _ 1 1 rfl, Int.toNat_natCast]
  rw [o, and_nat]
/-- entries -/
theorem bits_start (n : Int) : n = n.fdiv (2 ^ ([] : List Int).length) ∧ ([] : List Int) = bitsOf n ((([] : List Int).length : Nat) : Int) := by
  refine ⟨?_, rfl⟩
  show n = n.fdiv 1
  rw [Int.fdiv_one]
theorem bits_turn {n0 n i : Int} {pre es : List Int} (h : n = n0.fdiv (2 ^ pre.length) ∧ es = bitsOf n0 (pre.length : Nat)) :
    n.fdiv 2 = n0.fdiv (2 ^ (pre ++ [i]).length) ∧ es ++ [n.fmod 2] = bitsOf n0 ((pre ++ [i]).length : Nat) := by
  obtain ⟨h1, h2⟩ := h
  subst h1; subst h2
  rw [List.length_append]
  refine ⟨?_, ?_⟩
  · have hp := pw_pos pre.length
    rw [Int.fdiv_eq_ediv_of_nonneg _ (by omega), Int.fdiv_eq_ediv_of_nonneg _ (by omega), Int.fdiv_eq_ediv_of_nonneg _ (by have := pw_pos (pre.length + [i].length); omega)]
    rw [Int.ediv_ediv_of_nonneg (by omega)]
    congr 1
  · show bitsOf n0 _ ++ _ = bitsOf n0 ((pre.length + 1 : Nat) : Int)
    unfold bitsOf
    rw [Int.toNat_natCast, Int.toNat_natCast, List.range_succ, List.map_append]
    rfl
/-- what the list of entries is -/
theorem bits_ib (N W : Nat) : bitsOf N W = (List.range W).map fun i => ib (N.testBit i) := by
  refine list_of (bitsOf_len _ _) fun i hi => bitsOf_get hi
theorem ib_get (f : Nat → Bool) {W i : Nat} (h : i < W) : ((List.range W).map fun i => ib (f i)).getD i 0 = ib (f i) := by
  rw [List.getD_eq_getElem?_getD, List.getElem?_map, List.getElem?_range h]; rfl
theorem ib_xor (a b : Bool) : (ib a + ib b).fmod 2 = ib (a ^^ b) := by cases a <;> cases b <;> rfl
/-- the code list -/
def codeOf (N W : Nat) : List Int := (List.range W).map fun i => ib ((tgN N).testBit i)
theorem code_item {N W i : Nat} (h : N < 2 ^ W) (hi : i < W) :
    ((bitsOf N W).getD i 0 + ((bitsOf N W).drop 1 ++ [0]).getD i 0).fmod 2 = ib ((tgN N).testBit i) := by
  have e2 : ((bitsOf N W).drop 1 ++ [0]).getD i 0 = ib (N.testBit (i + 1)) := by
    rw [List.getD_eq_getElem?_getD, List.getElem?_append]
    have hl : ((bitsOf N W).drop 1).length = W - 1 := by rw [List.length_drop, bitsOf_len]
    rw [hl]
    by_cases hb : i < W - 1
    · rw [if_pos hb, List.getElem?_drop, ← List.getD_eq_getElem?_getD, Nat.add_comm 1 i]
      exact bitsOf_get (by omega)
    · have : i - (W - 1) = 0 := by omega
      rw [if_neg hb, this, high_bit h (show W ≤ i + 1 by omega)]; rfl
  rw [bitsOf_get hi, e2, ib_xor, tgN_testBit]
theorem val_code {N W : Nat} (h : N < 2 ^ W) : val (codeOf N W) = (tgN N : Int) := by
  unfold codeOf
  rw [val_spell, ← eq_spell (tgN_lt h) (fun i _ => rfl)]
/-- the running sums -/
theorem drop_sum (N W : Nat) {i : Nat} (hi : i ≤ W) : ((bitsOf N W).drop i).sum.fmod 2 = ib (xr N i (W - i)) := by
  rw [Int.fmod_eq_emod_of_nonneg _ (by decide), ← sum_mod]
  congr 2
  rw [bits_ib]
  refine List.ext_getElem (by simp) fun k h1 h2 => ?_
  simp
def RunInv (E : List Int) (k : Nat) (total : Int) (sums : List Int) : Prop :=
  k ≤ E.length ∧ sums.length = E.length ∧ total = (E.drop (E.length - k)).sum ∧ ∀ i, E.length - k ≤ i → i < E.length → sums.getD i 0 = (E.drop i).sum.fmod 2
theorem run_start (E : List Int) {s : List Int} (hs : s.length = E.length) : RunInv E 0 0 s := by
  refine ⟨by omega, hs, by simp, fun i h1 h2 => by omega⟩
theorem run_turn {E : List Int} {k : Nat} {total : Int} {sums : List Int} (h : RunInv E k total sums) (hk : k < E.length) :
    RunInv E (k + 1) (total + E.getD (E.length - 1 - k) 0) (sums.set (E.length - 1 - k) ((total + E.getD (E.length - 1 - k) 0).fmod 2)) := by
  obtain ⟨h1, h2, h3, h4⟩ := h
  have e : E.drop (E.length - (k + 1)) = E.getD (E.length - 1 - k) 0 :: E.drop (E.length - k) := by
    have hlt : E.length - (k + 1) < E.length := by omega
    rw [List.drop_eq_getElem_cons hlt]
    have e1 : E.length - (k + 1) + 1 = E.length - k := by omega
    have e2 : E.length - 1 - k = E.length - (k + 1) := by omega
    rw [e1, e2, List.getD_eq_getElem?_getD, List.getElem?_eq_getElem hlt]; rfl
  have et : total + E.getD (E.length - 1 - k) 0 = (E.drop (E.length - (k + 1))).sum := by
    rw [e, List.sum_cons, h3]; omega
  refine ⟨by omega, by rw [List.length_set, h2], et, fun i hi1 hi2 => ?_⟩
  by_cases hik : i = E.length - 1 - k
  · subst hik
    rw [List.getD_eq_getElem?_getD, List.getElem?_set_self (by omega)]
    have : E.length - 1 - k = E.length - (k + 1) := by omega
    rw [et, ← this]; rfl
  · rw [List.getD_eq_getElem?_getD, List.getElem?_set_ne (by omega), ← List.getD_eq_getElem?_getD]
    exact h4 i (by omega) hi2
theorem run_end {N W : Nat} (h : N < 2 ^ W) {total : Int} {sums : List Int} (hr : RunInv (bitsOf N W) W total sums) : val sums = (fgN N : Int) := by
  obtain ⟨_, h2, _, h4⟩ := hr
  rw [bitsOf_len] at h2 h4
  have : sums = (List.range W).map fun i => ib (xr N i (W - i)) := list_of h2 fun i hi => by
    rw [h4 i (by omega) hi, drop_sum N W (by omega)]
  rw [this, val_spell, run_spell h]
/-- parity -/
theorem ib_toNat (b : Bool) : ib b = ((b.toNat : Nat) : Int) := by cases b <;> rfl
theorem par_sum {N W : Nat} (h : N < 2 ^ W) (hW : W ≤ 64) : (bitsOf N W).sum.fmod 2 = (parN N : Int) := by
  have := drop_sum N W (Nat.zero_le W)
  rw [List.drop_zero] at this
  rw [this, par_w h hW, ib_toNat]; rfl
theorem spell_odd (f : Nat → Bool) {W : Nat} (hW : 0 < W) : spell f W % 2 = (f 0).toNat := by
  have h := spell_testBit f W 0
  rw [Nat.testBit_eq_decide_div_mod_eq] at h
  have hlt : spell f W % 2 < 2 := Nat.mod_lt _ (by decide)
  simp only [Nat.pow_zero, Nat.div_one, hW, decide_true, Bool.true_and] at h
  by_cases e : spell f W % 2 = 1
  · simp [e] at h; rw [e, h]; rfl
  · have e0 : spell f W % 2 = 0 := by omega
    simp [e0] at h; rw [e0, h]; rfl
theorem par_fg {N W : Nat} (h : N < 2 ^ W) (h0 : 0 < W) (hW : W ≤ 64) : parN N = fgN N % 2 := by
  rw [← run_spell h, spell_odd _ h0, par_w h hW]; rfl
theorem xr_tg (N : Nat) : ∀ d, xr (tgN N) 0 d = (N.testBit 0 ^^ N.testBit d)
  | 0 => by simp [xr]
  | d + 1 => by
    rw [xr, xr_tg N d, Nat.zero_add, tgN_testBit]
    cases N.testBit 0 <;> cases N.testBit d <;> cases N.testBit (d + 1) <;> rfl
theorem par_tg {N W : Nat} (h : N < 2 ^ W) (hW : W ≤ 64) : (parN (tgN N) : Int) = ib (N.testBit 0) := by
  rw [par_w (tgN_lt h) hW, xr_tg, high_bit h (Nat.le_refl _), ib_toNat]; simp
/-- the mirror -/
theorem mirror_list {N W : Nat} (hW : 0 < W) : (codeOf N W).take (W - 1) ++ [1 - (codeOf N W).getD (W - 1) 0] = (List.range W).map fun i => ib (if i = W - 1 then !(tgN N).testBit i else (tgN N).testBit i) := by
  refine list_of (by simp [codeOf]; omega) fun i hi => ?_
  have hl : ((codeOf N W).take (W - 1)).length = W - 1 := by simp [codeOf]
  rw [List.getD_eq_getElem?_getD, List.getElem?_append, hl]
  by_cases h2 : i < W - 1
  · have h3 : i ≠ W - 1 := by omega
    rw [if_pos h2, List.getElem?_take_of_lt h2, if_neg h3, ← List.getD_eq_getElem?_getD]
    exact ib_get _ hi
  · have h3 : i = W - 1 := by omega
    subst h3
    have h4 : (codeOf N W).getD (W - 1) 0 = ib ((tgN N).testBit (W - 1)) := ib_get _ hi
    rw [if_neg h2, Nat.sub_self, h4]
    simp
    cases (tgN N).testBit (W - 1) <;> rfl
theorem val_mirror {N W : Nat} (hW : 0 < W) (h : N < 2 ^ W) : val ((codeOf N W).take (W - 1) ++ [1 - (codeOf N W).getD (W - 1) 0]) = (tgN (2 ^ W - 1 - N) : Int) := by
  rw [mirror_list hW, val_spell, tg_inv hW h]
theorem flip_mirror {N W : Nat} (hW : 0 < W) (h : N < 2 ^ W) : tgN N ^^^ (1 <<< (W - 1)) = tgN (2 ^ W - 1 - N) := by
  rw [tg_inv hW h, flip_tg hW (tgN_lt h)]
def EntInv (w0 : Int) (k : Nat) (word : Int) (es : List Int) : Prop := word = w0.fdiv (2 ^ k) ∧ es = bitsOf w0 (k : Nat)
theorem ent_start (n : Int) : ([] : List Int).length = ([] : List Int).length ∧ EntInv n ([] : List Int).length n [] := ⟨rfl, bits_start n⟩
theorem ent_turn {n0 n i : Int} {pre es : List Int} (hl : es.length = pre.length) (h : EntInv n0 pre.length n es) :
    (es ++ [n.fmod 2]).length = (pre ++ [i]).length ∧ EntInv n0 (pre ++ [i]).length (n.fdiv 2) (es ++ [n.fmod 2]) :=
  ⟨by rw [List.length_append, List.length_append, hl]; rfl, bits_turn h⟩
/-- the loop of _law_spelled -/
def SpInv (pre : List Int) (number weight : Int) : Prop := number = val pre ∧ weight = 2 ^ pre.length
theorem sp_start : SpInv [] 0 1 := ⟨rfl, by simp⟩
theorem sp_turn {pre : List Int} {e number weight : Int} (h : SpInv pre number weight) : SpInv (pre ++ [e]) (number + e * weight) (weight * 2) := by
  obtain ⟨h1, h2⟩ := h
  refine ⟨by rw [val_append, h1, h2], ?_⟩
  rw [h2, List.length_append]
  show (2 : Int) ^ pre.length * 2 = 2 ^ (pre.length + 1)
  rw [Int.pow_succ]
theorem toN (N : Nat) : ((N : Int)).toNat = N := Int.toNat_natCast N
/-- the code list, as the walk writes it -/
def codeI (es : List Int) (m : Nat) : List Int := (rk 0 m).map fun i => (es.getD i.toNat 0 + (es.drop 1 ++ [0]).getD i.toNat 0).fmod 2
theorem codeI_eq {N W : Nat} (h : N < 2 ^ W) : codeI (bitsOf N W) W = codeOf N W := by
  unfold codeI codeOf
  rw [rk_map]
  refine List.map_congr_left fun i hi => ?_
  rw [toN]
  exact code_item h (List.mem_range.mp hi)
theorem g_code {n w : Int} (h1 : 1 ≤ w) (h0 : 0 ≤ n) (h : n < 2 ^ w.toNat) : val (codeI (bitsOf n w) w.toNat) = tgI n := by
  obtain ⟨N, W, rfl, rfl, hW, hN⟩ := nn h1 h0 h
  rw [toN, codeI_eq hN, val_code hN]; rfl
theorem g_run {n w total : Int} {sums : List Int} (h1 : 1 ≤ w) (h0 : 0 ≤ n) (h : n < 2 ^ w.toNat) (hr : RunInv (bitsOf n w) w.toNat total sums) : val sums = fgI n := by
  obtain ⟨N, W, rfl, rfl, hW, hN⟩ := nn h1 h0 h
  rw [toN] at hr
  rw [run_end hN hr]; rfl
theorem g_fgtg {n : Int} (h0 : 0 ≤ n) : fgI (tgI n) = n := by
  unfold fgI tgI
  rw [toN, fgN_tgN]; omega
theorem g_tgfg {n : Int} (h0 : 0 ≤ n) : tgI (fgI n) = n := by
  unfold fgI tgI
  rw [toN, fgN_tg]; omega
theorem g_par {n w : Int} (h1 : 1 ≤ w) (hw : w ≤ 64) (h0 : 0 ≤ n) (h : n < 2 ^ w.toNat) : parI n = (bitsOf n w).sum.fmod 2 := by
  obtain ⟨N, W, rfl, rfl, hW, hN⟩ := nn h1 h0 h
  rw [par_sum hN (by omega)]; rfl
theorem g_parfg {n w : Int} (h1 : 1 ≤ w) (hw : w ≤ 64) (h0 : 0 ≤ n) (h : n < 2 ^ w.toNat) : parI n = (fgI n).fmod 2 := by
  obtain ⟨N, W, rfl, rfl, hW, hN⟩ := nn h1 h0 h
  unfold parI fgI
  rw [toN, par_fg hN hW (by omega), Int.fmod_eq_emod_of_nonneg _ (by decide)]; rfl
theorem g_partg {n w : Int} (h1 : 1 ≤ w) (hw : w ≤ 64) (h0 : 0 ≤ n) (h : n < 2 ^ w.toNat) : parI (tgI n) = (bitsOf n w).getD 0 0 := by
  obtain ⟨N, W, rfl, rfl, hW, hN⟩ := nn h1 h0 h
  unfold parI tgI
  rw [toN, toN, par_tg hN (by omega), bitsOf_get hW]
theorem g_inv {n w : Int} (h1 : 1 ≤ w) (h0 : 0 ≤ n) (h : n < 2 ^ w.toNat) : Builtin.bitAnd (Builtin.bitNot n) (1 * 2 ^ w.toNat - 1) = 2 ^ w.toNat - 1 - n := by
  obtain ⟨N, W, rfl, rfl, hW, hN⟩ := nn h1 h0 h
  rw [toN, mask_nat]
  have hx : decide ((0 : Int) ≤ Builtin.bitNot (N : Int)) = false := by
    unfold Builtin.bitNot
    simp only [decide_eq_false_iff_not]; omega
  have hm : decide ((0 : Int) ≤ ((2 ^ W - 1 : Nat) : Int)) = true := by
    simp only [decide_eq_true_eq]; omega
  unfold Builtin.bitAnd
  rw [hx, hm]
  show ((2 ^ W - 1 : Nat) : Int) - ((((2 ^ W - 1 : Nat) : Int).toNat &&& (Builtin.bitNot (Builtin.bitNot (N : Int))).toNat : Nat) : Int) = _
  have e : Builtin.bitNot (Builtin.bitNot (N : Int)) = N := by unfold Builtin.bitNot; omega
  rw [e, toN, toN, Nat.and_comm, Nat.and_two_pow_sub_one_eq_mod, Nat.mod_eq_of_lt hN, ← mask_nat, Int.one_mul]
theorem tgI_inv {N W : Nat} (hN : N < 2 ^ W) : tgI (2 ^ W - 1 - (N : Int)) = (tgN (2 ^ W - 1 - N) : Int) := by
  have hp := Nat.two_pow_pos W
  have e : (2 : Int) ^ W - 1 - (N : Int) = ((2 ^ W - 1 - N : Nat) : Int) := by
    have := mask_nat W
    rw [Int.one_mul] at this
    rw [this]; omega
  unfold tgI
  rw [e, toN]
theorem g_mirror {n w : Int} (h1 : 1 ≤ w) (h0 : 0 ≤ n) (h : n < 2 ^ w.toNat) :
    val ((codeI (bitsOf n w) w.toNat).take (w - 1).toNat ++ [1 - (codeI (bitsOf n w) w.toNat).getD (w - 1).toNat 0]) = tgI (2 ^ w.toNat - 1 - n) := by
  obtain ⟨N, W, rfl, rfl, hW, hN⟩ := nn h1 h0 h
  have e : ((W : Int) - 1).toNat = W - 1 := by omega
  rw [toN, e, codeI_eq hN, val_mirror hW hN, tgI_inv hN]
theorem g_flip {n w : Int} (h1 : 1 ≤ w) (h0 : 0 ≤ n) (h : n < 2 ^ w.toNat) : Builtin.bitXor (tgI n) (1 * 2 ^ (w - 1).toNat) = tgI (2 ^ w.toNat - 1 - n) := by
  obtain ⟨N, W, rfl, rfl, hW, hN⟩ := nn h1 h0 h
  have e : ((W : Int) - 1).toNat = W - 1 := by omega
  have o : (1 : Int) = ((1 : Nat) : Int) := rfl
  rw [toN, e, tgI_inv hN]
  unfold tgI
  rw [toN]
  conv => lhs; rw [o, shl_nat, xor_nat]
  rw [flip_mirror hW hN]
def Bits01 (l : List Int) : Prop := ∀ x ∈ l, 0 ≤ x ∧ x ≤ 1
theorem mul_bit {l : List Int} {e : Int} (w : Int) (h : Bits01 l) (he : e ∈ l) : IntMulOk e w := by
  have := h e he
  exact IntMulOk.of_left (intBits_le_64 (by omega) (by omega))
theorem mul_bit' {l : List Int} {e : Int} {P Q : Prop} (w : Int) (h : (P ∧ Bits01 l) ∧ Q) (he : e ∈ l) : IntMulOk e w := mul_bit w h.1.2 he
theorem code01 (F : Int → Int) (L : List Int) : Bits01 (List.map (fun k => (F k).fmod 2) L) := by
  intro x hx
  obtain ⟨k, _, rfl⟩ := List.mem_map.mp hx
  have := fmod_range (F k) (show (0 : Int) < 2 by decide)
  omega
theorem get01 {l : List Int} (h : Bits01 l) (i : Nat) : 0 ≤ l.getD i 0 ∧ l.getD i 0 ≤ 1 := by
  rw [List.getD_eq_getElem?_getD]
  cases e : l[i]? with
  | none => decide
  | some x => exact h x (List.mem_of_getElem? e)
theorem mirror01 {l : List Int} (h : Bits01 l) (k i : Nat) : Bits01 (l.take k ++ [1 - l.getD i 0]) := by
  intro x hx
  rcases List.mem_append.mp hx with hx | hx
  · exact h x (List.mem_of_mem_take hx)
  · rw [List.mem_singleton.mp hx]
    have := get01 h i
    omega
theorem set01 {l : List Int} (h : Bits01 l) (i : Nat) (y : Int) : Bits01 (l.set i (y.fmod 2)) := by
  intro x hx
  rcases List.mem_or_eq_of_mem_set hx with hx | hx
  · exact h x hx
  · rw [hx]
    have := fmod_range y (show (0 : Int) < 2 by decide)
    omega
theorem zero01 (n : Nat) : Bits01 (List.replicate n (0 : Int)) := by
  intro x hx
  rw [(List.mem_replicate.mp hx).2]; decide
theorem sp_end {l : List Int} {number weight : Int} (h : SpInv l number weight) : number = val l := h.1
theorem flat_rep (n : Nat) : (List.replicate n [(0 : Int)]).flatten = List.replicate n 0 := by
  induction n with
  | zero => rfl
  | succ n ih => rw [List.replicate_succ, List.flatten_cons, ih, List.replicate_succ]; rfl
theorem rstart (E : List Int) : (List.replicate ((E.length : Int)).toNat [(0 : Int)]).flatten.length = E.length ∧ Bits01 (List.replicate ((E.length : Int)).toNat [(0 : Int)]).flatten ∧ RunInv E ([] : List Int).length 0 (List.replicate ((E.length : Int)).toNat [(0 : Int)]).flatten := by
  rw [flat_rep, toN]
  exact ⟨List.length_replicate, zero01 _, run_start E List.length_replicate⟩
theorem rturn {E pre sums : List Int} {total i : Int} (hl : sums.length = E.length) (hb : Bits01 sums) (hr : RunInv E pre.length total sums) (hi : i = (E.length : Int) - 1 - (pre.length : Int)) (hk : pre.length < ((E.length : Int) - 1 - -1).toNat) :
    (sums.set i.toNat ((total + E.getD i.toNat 0).fmod 2)).length = E.length ∧ Bits01 (sums.set i.toNat ((total + E.getD i.toNat 0).fmod 2)) ∧ RunInv E (pre ++ [i]).length (total + E.getD i.toNat 0) (sums.set i.toNat ((total + E.getD i.toNat 0).fmod 2)) := by
  have hk' : pre.length < E.length := by omega
  have e : i.toNat = E.length - 1 - pre.length := by omega
  refine ⟨by rw [List.length_set, hl], set01 hb _ _, ?_⟩
  have := run_turn hr hk'
  rw [List.length_append, e]
  exact this
/-- what a call's cut hands on: an int with P, the frame and the ledger as they stood -/
def CutI (P : Int → Prop) (h₀ : Heap) (L : Addr) (m : Str → Option Value) (news : List (Addr × Obj)) (s : Shared) (v : Value) (s₂ : Shared) : Prop :=
  ∃ (x : Int) (t : Tok) (h : Heap) (tk : Nat), v = .int x t ∧ s₂ = { s with heap := h, toks := tk } ∧ P x ∧ Fr h₀ L h m ∧ News h₀ L h news
theorem cutI_end {P : Int → Prop} {h₀ h : Heap} {L : Addr} {m : Str → Option Value} {news news' : List (Addr × Obj)} {s : Shared} {x : Int} {t : Tok} {tk : Nat}
    (hP : P x) (F : Fr h₀ L h m) (N : News h₀ L h news') (hs : ∀ p ∈ news, p ∈ news') : CutI P h₀ L m news s (.int x t) { s with heap := h, toks := tk } :=
  ⟨x, t, h, tk, rfl, rfl, hP, F, fun p hp => N p (hs p hp)⟩
theorem cutI (P : Int → Prop) {M : Model} {A : Around} {E : Value → Shared → Prop} {Q : Value → Shared → Prop} {s : Shared} {h₀ : Heap} {L : Addr} {m : Str → Option Value} {news : List (Addr × Obj)} {cm : Sem Value}
    (_F : Fr h₀ L s.heap m) (_N : News h₀ L s.heap news)
    (hk : ∀ (x : Int) (t : Tok) (h : Heap) (tk : Nat), P x → Fr h₀ L h m → News h₀ L h news → Q (.int x t) { s with heap := h, toks := tk })
    (hc : wpAny M A cm (fun v s₂ => CutI P h₀ L m news s v s₂) E s) : wpAny M A cm Q E s := by
  refine wpAny_mono hc (fun v s₂ hq => ?_) fun _ _ h => h
  obtain ⟨x, t, h, tk, hv, hs, hP, F, N⟩ := hq
  subst hv
  subst hs
  exact hk x t h tk hP F N
/-- a call of one int that hands back a function of it -/
theorem cutF1 (g : Int → Int) {M : Model} {A : Around} {E : Value → Shared → Prop} {Q : Value → Shared → Prop} {s : Shared} {h₀ : Heap} {L : Addr} {m : Str → Option Value} {news : List (Addr × Obj)} {f : Addr} {x : Int} {tx : Tok}
    (F : Fr h₀ L s.heap m) (N : News h₀ L s.heap news)
    (hk : ∀ (t : Tok) (h : Heap) (tk : Nat), Fr h₀ L h m → News h₀ L h news → Q (.int (g x) t) { s with heap := h, toks := tk })
    (hc : wpAny M A (call (.ref f) [.int x tx]) (fun v s₂ => CutI (fun r => r = g x) h₀ L m news s v s₂) E s) : wpAny M A (call (.ref f) [.int x tx]) Q E s :=
  cutI (fun r => r = g x) F N (fun r t h tk e F' N' => by subst e; exact hk t h tk F' N') hc
theorem cutF2 (g : Int → Int) {M : Model} {A : Around} {E : Value → Shared → Prop} {Q : Value → Shared → Prop} {s : Shared} {h₀ : Heap} {L : Addr} {m : Str → Option Value} {news : List (Addr × Obj)} {f : Addr} {x : Int} {tx : Tok} {v₂ : Value}
    (F : Fr h₀ L s.heap m) (N : News h₀ L s.heap news)
    (hk : ∀ (t : Tok) (h : Heap) (tk : Nat), Fr h₀ L h m → News h₀ L h news → Q (.int (g x) t) { s with heap := h, toks := tk })
    (hc : wpAny M A (call (.ref f) [.int x tx, v₂]) (fun v s₂ => CutI (fun r => r = g x) h₀ L m news s v s₂) E s) : wpAny M A (call (.ref f) [.int x tx, v₂]) Q E s :=
  cutI (fun r => r = g x) F N (fun r t h tk e F' N' => by subst e; exact hk t h tk F' N') hc
/-- «if test: x op= e», joined: the new value is an if -/
theorem join_aug {M : Model} {A : Around} {E : Value → Shared → Prop} {s : Shared} {env : Env} {h₀ : Heap} {L : Addr} {m : Str → Option Value} {news : List (Addr × Obj)} {test : Expr} {x : Str} {p q pos : Pos} {o : Operator} {e : Expr} {c : Bool} {a v : Int} {t₀ : Tok} {Q : Flow → Shared → Prop} (F : Fr h₀ L s.heap m) (N : News h₀ L s.heap news)
    (hold : m x = some (.int a t₀))
    (hc : wpAny M A (isTrue test env (eval test env)) (fun k s₂ => KJoinC c h₀ L m news s k s₂) E s)
    (hv : KJoinB1 (c = true → ∀ s₂, KJoinAt h₀ L m news s s₂ → wpAny M A (exec (.AugAssign (.Name x p) o e q) env) (fun f s₃ => KJoinV x v h₀ L m news s f s₃) E s₂))
    (hk : KCtDone (∀ (t : Tok) (h : Heap) (tk : Nat), Fr h₀ L h (fun y => if y = x then some (.int (if c = true then v else a) t) else m y) → News h₀ L h news → Q .next { s with heap := h, toks := tk })) :
    wpAny M A (exec (.If test [.AugAssign (.Name x p) o e q] [] pos) env) Q E s := by
  refine kj_if_aug F N hold hc hv (fun r t s₃ hr hJ => ?_)
  obtain ⟨h, tk, e', F', N'⟩ := hJ.at_
  subst e'
  have er : r = if c = true then v else a := by
    rcases hr with ⟨h1, h2⟩ | ⟨h1, h2⟩
    · rw [if_pos h1, h2]
    · rw [h1, if_neg (by simp), h2]
  subst er
  exact hk t h tk F' N'
def JoinDone (P : Prop) : Prop := P
theorem join_aug' {M : Model} {A : Around} {E : Value → Shared → Prop} {s : Shared} {env : Env} {h₀ : Heap} {L : Addr} {m : Str → Option Value} {news : List (Addr × Obj)} {test : Expr} {x : Str} {p q pos : Pos} {o : Operator} {e : Expr} {c : Bool} {a v : Int} {t₀ : Tok} {Q : Flow → Shared → Prop} (F : Fr h₀ L s.heap m) (N : News h₀ L s.heap news)
    (hold : m x = some (.int a t₀))
    (hc : wpAny M A (isTrue test env (eval test env)) (fun k s₂ => KJoinC c h₀ L m news s k s₂) E s)
    (hv : KJoinB1 (c = true → ∀ s₂, KJoinAt h₀ L m news s s₂ → wpAny M A (exec (.AugAssign (.Name x p) o e q) env) (fun f s₃ => KJoinV x v h₀ L m news s f s₃) E s₂))
    (hk : JoinDone (∀ (t : Tok) (h : Heap) (tk : Nat), Fr h₀ L h (fun y => if y = x then some (.int (if c = true then v else a) t) else m y) → News h₀ L h news → Q .next { s with heap := h, toks := tk })) :
    wpAny M A (exec (.If test [.AugAssign (.Name x p) o e q] [] pos) env) Q E s := join_aug F N hold hc hv hk
/-- a call upon a value and an int W that hands back an int below 2 ^ W -/
theorem cutW {M : Model} {A : Around} {E : Value → Shared → Prop} {Q : Value → Shared → Prop} {s : Shared} {h₀ : Heap} {L : Addr} {m : Str → Option Value} {news : List (Addr × Obj)} {f : Addr} {a : Value} {W : Int} {tW : Tok}
    (F : Fr h₀ L s.heap m) (N : News h₀ L s.heap news)
    (hk : ∀ (x : Int) (t : Tok) (h : Heap) (tk : Nat), 0 ≤ x → x < 2 ^ W.toNat → Fr h₀ L h m → News h₀ L h news → Q (.int x t) { s with heap := h, toks := tk })
    (hc : wpAny M A (call (.ref f) [a, .int W tW]) (fun v s₂ => CutI (fun x => 0 ≤ x ∧ x < 2 ^ W.toNat) h₀ L m news s v s₂) E s) : wpAny M A (call (.ref f) [a, .int W tW]) Q E s :=
  cutI (fun x => 0 ≤ x ∧ x < 2 ^ W.toNat) F N (fun x t h tk hP F' N' => hk x t h tk hP.1 hP.2 F' N') hc
/-- what a call's cut hands on: a text with P -/
def CutS (P : Str → Prop) (h₀ : Heap) (L : Addr) (m : Str → Option Value) (news : List (Addr × Obj)) (s : Shared) (v : Value) (s₂ : Shared) : Prop :=
  ∃ (x : Str) (t : Tok) (h : Heap) (tk : Nat), v = .str x t ∧ s₂ = { s with heap := h, toks := tk } ∧ P x ∧ Fr h₀ L h m ∧ News h₀ L h news
theorem cutS_end {P : Str → Prop} {h₀ h : Heap} {L : Addr} {m : Str → Option Value} {news news' : List (Addr × Obj)} {s : Shared} {x : Str} {t : Tok} {tk : Nat}
    (hP : P x) (F : Fr h₀ L h m) (N : News h₀ L h news') (hs : ∀ p ∈ news, p ∈ news') : CutS P h₀ L m news s (.str x t) { s with heap := h, toks := tk } :=
  ⟨x, t, h, tk, rfl, rfl, hP, F, fun p hp => N p (hs p hp)⟩
theorem cutS_ (P : Str → Prop) {M : Model} {A : Around} {E : Value → Shared → Prop} {Q : Value → Shared → Prop} {s : Shared} {h₀ : Heap} {L : Addr} {m : Str → Option Value} {news : List (Addr × Obj)} {cm : Sem Value}
    (_F : Fr h₀ L s.heap m) (_N : News h₀ L s.heap news)
    (hk : ∀ (x : Str) (t : Tok) (h : Heap) (tk : Nat), P x → Fr h₀ L h m → News h₀ L h news → Q (.str x t) { s with heap := h, toks := tk })
    (hc : wpAny M A cm (fun v s₂ => CutS P h₀ L m news s v s₂) E s) : wpAny M A cm Q E s := by
  refine wpAny_mono hc (fun v s₂ hq => ?_) fun _ _ h => h
  obtain ⟨x, t, h, tk, hv, hs, hP, F, N⟩ := hq
  subst hv
  subst hs
  exact hk x t h tk hP F N
abbrev CODE (es : List Int) : List Int := List.map (fun k' => (es.getD k'.toNat 0 + (List.drop 1 es ++ [0]).getD k'.toNat 0).fmod 2) (rangeKs 0 ((es.length : Int) - 0).toNat)
theorem es_of {n w wd : Int} {es : List Int} (h1 : 1 ≤ w) (hE : EntInv n (w - 0).toNat wd es) : es = bitsOf n w ∧ es.length = w.toNat := by
  have e : ((w - 0).toNat : Int) = w := by omega
  have h := hE.2
  rw [e] at h
  refine ⟨h, ?_⟩
  rw [h]
  unfold bitsOf
  simp
theorem code_of {n w wd : Int} {es : List Int} (h1 : 1 ≤ w) (hE : EntInv n (w - 0).toNat wd es) : CODE es = codeI (bitsOf n w) w.toNat := by
  obtain ⟨h2, h3⟩ := es_of h1 hE
  have e : ((es.length : Int) - 0).toNat = w.toNat := by rw [h3]; omega
  unfold CODE
  rw [e, h2]; rfl
section
variable {n w wd num wt : Int} {es : List Int}
theorem gend1 (hne : tgI n ≠ num) (hS : SpInv (CODE es) num wt) (hE : EntInv n (w - 0).toNat wd es) (h : n < 2 ^ w.toNat) (h0 : 0 ≤ n) (h1 : 1 ≤ w) : False := by
  rw [code_of h1 hE] at hS
  exact hne (by rw [hS.1, g_code h1 h0 h])
theorem gend2 {total : Int} {sums : List Int} (hne : fgI n ≠ num) (hS : SpInv sums num wt) (hR : RunInv es (downKs ((es.length : Int) - 1) ((es.length : Int) - 1 - -1).toNat).length total sums) (hE : EntInv n (w - 0).toNat wd es) (h : n < 2 ^ w.toNat) (h0 : 0 ≤ n) (h1 : 1 ≤ w) : False := by
  obtain ⟨h2, h3⟩ := es_of h1 hE
  rw [downKs_length] at hR
  have e : ((es.length : Int) - 1 - -1).toNat = w.toNat := by rw [h3]; omega
  rw [e, h2] at hR
  exact hne (by rw [hS.1, g_run h1 h0 h hR])
theorem gend3 (hne : fgI (tgI n) ≠ n) (h0 : 0 ≤ n) : False := hne (g_fgtg h0)
theorem gend4 (hne : tgI (fgI n) ≠ n) (h0 : 0 ≤ n) : False := hne (g_tgfg h0)
theorem gend5 (hne : parI n ≠ es.sum.fmod 2) (hE : EntInv n (w - 0).toNat wd es) (h : n < 2 ^ w.toNat) (h0 : 0 ≤ n) (h1 : 1 ≤ w) (h2 : w ≤ 64) : False := by
  rw [(es_of h1 hE).1] at hne
  exact hne (g_par h1 h2 h0 h)
theorem gend6 (hne : parI n ≠ (fgI n).fmod 2) (h : n < 2 ^ w.toNat) (h0 : 0 ≤ n) (h1 : 1 ≤ w) (h2 : w ≤ 64) : False := hne (g_parfg h1 h2 h0 h)
theorem gend7 (hne : parI (tgI n) ≠ es.getD (0 : Int).toNat 0) (hE : EntInv n (w - 0).toNat wd es) (h : n < 2 ^ w.toNat) (h0 : 0 ≤ n) (h1 : 1 ≤ w) (h2 : w ≤ 64) : False := by
  rw [(es_of h1 hE).1] at hne
  exact hne (g_partg h1 h2 h0 h)
theorem gend8 (hne : Builtin.bitAnd (Builtin.bitNot n) (1 * 2 ^ w.toNat - 1) ≠ 2 ^ w.toNat - 1 - n) (h : n < 2 ^ w.toNat) (h0 : 0 ≤ n) (h1 : 1 ≤ w) : False := hne (g_inv h1 h0 h)
theorem mir_of (h1 : 1 ≤ w) (h0 : 0 ≤ n) (h : n < 2 ^ w.toNat) (hE : EntInv n (w - 0).toNat wd es) (hS : SpInv ((CODE es).take (w - 1).toNat ++ [1 - (CODE es).getD (w - 1).toNat 0]) num wt) : num = tgI (2 ^ w.toNat - 1 - n) := by
  rw [code_of h1 hE] at hS
  rw [hS.1, g_mirror h1 h0 h]
theorem gend9 (hne : tgI (Builtin.bitAnd (Builtin.bitNot n) (1 * 2 ^ w.toNat - 1)) ≠ num) (hS : SpInv ((CODE es).take (w - 1).toNat ++ [1 - (CODE es).getD (w - 1).toNat 0]) num wt) (hE : EntInv n (w - 0).toNat wd es) (h : n < 2 ^ w.toNat) (h0 : 0 ≤ n) (h1 : 1 ≤ w) : False := by
  rw [g_inv h1 h0 h] at hne
  exact hne (mir_of h1 h0 h hE hS).symm
theorem gend10 (hne : Builtin.bitXor (tgI n) (1 * 2 ^ (w - 1).toNat) ≠ num) (hS : SpInv ((CODE es).take (w - 1).toNat ++ [1 - (CODE es).getD (w - 1).toNat 0]) num wt) (hE : EntInv n (w - 0).toNat wd es) (h : n < 2 ^ w.toNat) (h0 : 0 ≤ n) (h1 : 1 ≤ w) : False := by
  exact hne (by rw [g_flip h1 h0 h, mir_of h1 h0 h hE hS])
end
theorem sp_w {l : List Int} {a b : Int} (h : SpInv l a b) : SpInv l a (2 ^ l.length) := ⟨h.1, rfl⟩
/-- the last spelled list: behind it no list is asked any more -/
theorem cut_sp {M : Model} {A : Around} {E : Value → Shared → Prop} {Q : Value → Shared → Prop} {s : Shared} {h₀ : Heap} {L : Addr} {m : Str → Option Value} {news : List (Addr × Obj)} {f D : Addr} {ws : List Value} {nn : Nat} {k : Nat} {c : List Int} {x₀ : Int}
    (F : Fr h₀ L s.heap m) (N : News h₀ L s.heap news) (hi : IntsAre ws (List.take k c ++ [x₀])) (hm : (D, listOf ws.toArray nn) ∈ news)
    (hk : ∀ (x : Int) (t : Tok) (h : Heap) (tk : Nat), SpInv (List.take k c ++ [x₀]) x (2 ^ (List.take k c ++ [x₀]).length) → Fr h₀ L h m → News h₀ L h [] → Q (.int x t) { s with heap := h, toks := tk })
    (hc : News h₀ L s.heap [(D, listOf ws.toArray nn)] → wpAny M A (call (.ref f) [.ref D]) (fun v s₂ => CutI (fun x => SpInv (List.take k c ++ [x₀]) x (2 ^ (List.take k c ++ [x₀]).length)) h₀ L m [] s v s₂) E s) : wpAny M A (call (.ref f) [.ref D]) Q E s := by
  have N1 : News h₀ L s.heap [(D, listOf ws.toArray nn)] := fun p hp => by
    rw [List.mem_singleton.mp hp]; exact N _ hm
  have N0 : News h₀ L s.heap [] := fun p hp => by simp at hp
  exact cutI (fun x => SpInv (List.take k c ++ [x₀]) x (2 ^ (List.take k c ++ [x₀]).length)) F N0 (fun x t h tk hP F' N' => hk x t h tk hP F' N') (hc N1)
/-! cuts of the spelled lists by what they spell -/
theorem cut_eq (g : Int) {M : Model} {A : Around} {E : Value → Shared → Prop} {Q : Value → Shared → Prop} {s : Shared} {h₀ : Heap} {L : Addr} {m : Str → Option Value} {news : List (Addr × Obj)} {cm : Sem Value}
    (F : Fr h₀ L s.heap m) (N : News h₀ L s.heap news)
    (hk : ∀ (t : Tok) (h : Heap) (tk : Nat), Fr h₀ L h m → News h₀ L h news → Q (.int g t) { s with heap := h, toks := tk })
    (hc : wpAny M A cm (fun v s₂ => CutI (fun x => x = g) h₀ L m news s v s₂) E s) : wpAny M A cm Q E s :=
  cutI (fun x => x = g) F N (fun x t h tk e F' N' => by subst e; exact hk t h tk F' N') hc
theorem cut_fg {n w wd : Int} {es : List Int} {M : Model} {A : Around} {E : Value → Shared → Prop} {Q : Value → Shared → Prop} {s : Shared} {h₀ : Heap} {L : Addr} {m : Str → Option Value} {news : List (Addr × Obj)} {cm : Sem Value}
    (_hE : EntInv n (w - 0).toNat wd es) (F : Fr h₀ L s.heap m) (N : News h₀ L s.heap news)
    (hk : ∀ (t : Tok) (h : Heap) (tk : Nat), Fr h₀ L h m → News h₀ L h news → Q (.int (fgI n) t) { s with heap := h, toks := tk })
    (hc : wpAny M A cm (fun v s₂ => CutI (fun x => x = fgI n) h₀ L m news s v s₂) E s) : wpAny M A cm Q E s := cut_eq (fgI n) F N hk hc
theorem cut_tg {n w wd : Int} {es : List Int} {M : Model} {A : Around} {E : Value → Shared → Prop} {Q : Value → Shared → Prop} {s : Shared} {h₀ : Heap} {L : Addr} {m : Str → Option Value} {news : List (Addr × Obj)} {cm : Sem Value}
    (_hE : EntInv n (w - 0).toNat wd es) (F : Fr h₀ L s.heap m) (N : News h₀ L s.heap news)
    (hk : ∀ (t : Tok) (h : Heap) (tk : Nat), Fr h₀ L h m → News h₀ L h news → Q (.int (tgI n) t) { s with heap := h, toks := tk })
    (hc : wpAny M A cm (fun v s₂ => CutI (fun x => x = tgI n) h₀ L m news s v s₂) E s) : wpAny M A cm Q E s := cut_eq (tgI n) F N hk hc
theorem cut_mi {n w wd : Int} {es : List Int} {M : Model} {A : Around} {E : Value → Shared → Prop} {Q : Value → Shared → Prop} {s : Shared} {h₀ : Heap} {L : Addr} {m : Str → Option Value} {news : List (Addr × Obj)} {cm : Sem Value}
    (_hE : EntInv n (w - 0).toNat wd es) (F : Fr h₀ L s.heap m) (N : News h₀ L s.heap news)
    (hk : ∀ (t : Tok) (h : Heap) (tk : Nat), Fr h₀ L h m → News h₀ L h news → Q (.int (tgI (2 ^ w.toNat - 1 - n)) t) { s with heap := h, toks := tk })
    (hc : wpAny M A cm (fun v s₂ => CutI (fun x => x = tgI (2 ^ w.toNat - 1 - n)) h₀ L m news s v s₂) E s) : wpAny M A cm Q E s := cut_eq _ F N hk hc
section
variable {n w wd num wt : Int} {es : List Int}
theorem sp_tg (hS : SpInv (CODE es) num wt) (hE : EntInv n (w - 0).toNat wd es) (h : n < 2 ^ w.toNat) (h0 : 0 ≤ n) (h1 : 1 ≤ w) : num = tgI n := by
  rw [code_of h1 hE] at hS
  rw [hS.1, g_code h1 h0 h]
theorem sp_fg {total : Int} {sums : List Int} (hS : SpInv sums num wt) (hR : RunInv es (downKs ((es.length : Int) - 1) ((es.length : Int) - 1 - -1).toNat).length total sums) (hE : EntInv n (w - 0).toNat wd es) (h : n < 2 ^ w.toNat) (h0 : 0 ≤ n) (h1 : 1 ≤ w) : num = fgI n := by
  obtain ⟨h2, h3⟩ := es_of h1 hE
  rw [downKs_length] at hR
  have e : ((es.length : Int) - 1 - -1).toNat = w.toNat := by rw [h3]; omega
  rw [e, h2] at hR
  rw [hS.1, g_run h1 h0 h hR]
theorem sp_mi (hS : SpInv ((CODE es).take (w - 1).toNat ++ [1 - (CODE es).getD (w - 1).toNat 0]) num wt) (hE : EntInv n (w - 0).toNat wd es) (h : n < 2 ^ w.toNat) (h0 : 0 ≤ n) (h1 : 1 ≤ w) : num = tgI (2 ^ w.toNat - 1 - n) := mir_of h1 h0 h hE hS
theorem hend9 (hne : tgI (Builtin.bitAnd (Builtin.bitNot n) (1 * 2 ^ w.toNat - 1)) ≠ tgI (2 ^ w.toNat - 1 - n)) (h : n < 2 ^ w.toNat) (h0 : 0 ≤ n) (h1 : 1 ≤ w) : False := hne (by rw [g_inv h1 h0 h])
theorem hend10 (hne : Builtin.bitXor (tgI n) (1 * 2 ^ (w - 1).toNat) ≠ tgI (2 ^ w.toNat - 1 - n)) (h : n < 2 ^ w.toNat) (h0 : 0 ≤ n) (h1 : 1 ≤ w) : False := hne (g_flip h1 h0 h)
end
/-- a list of bits that no one asks any more: the spelled number, cut; the inner walk sees letters alone -/
theorem cut_spl {M : Model} {A : Around} {E : Value → Shared → Prop} {Q : Value → Shared → Prop} {s : Shared} {h₀ : Heap} {L : Addr} {m : Str → Option Value} {news : List (Addr × Obj)} {f D : Addr} {ws : List Value} {nn : Nat} {k : Nat} {c : List Int} {x₀ : Int}
    (F : Fr h₀ L s.heap m) (N : News h₀ L s.heap news) (hi : IntsAre ws (List.take k c ++ [x₀])) (hm : (D, listOf ws.toArray nn) ∈ news) (hb : Bits01 (List.take k c ++ [x₀]))
    (hk : ∀ (x : Int) (t : Tok) (h : Heap) (tk : Nat), SpInv (List.take k c ++ [x₀]) x (2 ^ (List.take k c ++ [x₀]).length) → Fr h₀ L h m → News h₀ L h [] → Q (.int x t) { s with heap := h, toks := tk })
    (hc : ∀ (ws' : List Value) (l : List Int), IntsAre ws' l → Bits01 l → News h₀ L s.heap [(D, listOf ws'.toArray nn)] → wpAny M A (call (.ref f) [.ref D]) (fun v s₂ => CutI (fun x => SpInv l x (2 ^ l.length)) h₀ L m [] s v s₂) E s) : wpAny M A (call (.ref f) [.ref D]) Q E s := by
  have N1 : News h₀ L s.heap [(D, listOf ws.toArray nn)] := fun p hp => by
    rw [List.mem_singleton.mp hp]; exact N _ hm
  have N0 : News h₀ L s.heap [] := fun p hp => by simp at hp
  exact cutI (fun x => SpInv (List.take k c ++ [x₀]) x (2 ^ (List.take k c ++ [x₀]).length)) F N0 (fun x t h tk hP F' N' => hk x t h tk hP F' N') (hc ws _ hi hb N1)
def cell7 (ns : List Int) (i : Int) : Int := if i < ns.length then ns.getD i.toNat 0 else 7 * i + 3
theorem tree_tg {n : Int} (h : 0 ≤ n) : tgI n = Builtin.bitXor n (n.fdiv (2 ^ (1 : Int).toNat)) := (tgI_eq h).symm
end Mine
open Mine
local macro_rules | `(tactic| k_room) => `(tactic| ((simp only [depth_under_make, depth_under_kw, depth_in1, depth_deeper, depth_caller]); omega))
local macro_rules | `(tactic| ktr_room) => `(tactic| ((simp only [depth_under_make, depth_under_kw, depth_in1, depth_deeper, depth_caller]); omega))
local macro_rules | `(tactic| walk_at "eval Call") => `(tactic| (k_here; (with_reducible show wpAny _ _ (eval (Expr.Call (Expr.Name (Str.ofString "_law_cell") _) _ [] _) _) _ _ _); k_dflt (refine Call_ ?_)))
local macro_rules | `(tactic| walk_at "eval Call") => `(tactic| (k_here; (with_reducible show wpAny _ _ (eval (Expr.Call (Expr.Name (Str.ofString "to_gray") _) _ [] _) _) _ _ _); k_dflt (refine Call_ ?_)))
local macro_rules | `(tactic| walk_at "eval Call") => `(tactic| (k_here; (with_reducible show wpAny _ _ (eval (Expr.Call (Expr.Name (Str.ofString "from_gray") _) _ [] _) _) _ _ _); k_dflt (refine Call_ ?_)))
local macro_rules | `(tactic| walk_at "eval Call") => `(tactic| (k_here; (with_reducible show wpAny _ _ (eval (Expr.Call (Expr.Name (Str.ofString "parity") _) _ [] _) _) _ _ _); k_dflt (refine Call_ ?_)))
local macro_rules | `(tactic| walk_at "eval Call") => `(tactic| (k_here; (with_reducible show wpAny _ _ (eval (Expr.Call (Expr.Name (Str.ofString "_law_word") _) _ [] _) _) _ _ _); k_dflt (refine Call_ ?_)))
local macro_rules | `(tactic| walk_at "call ref") => `(tactic| (k_here; (with_reducible show wpAny _ _ (call (Value.ref (ktn_at% "_law_cell")) _) _ _ _); (k_call_by "_law_cell" cell7 (fun _ i => 0 ≤ i))))
local macro_rules | `(tactic| walk_at "binaryOp Pow int int") => `(tactic| (k_here; (with_reducible refine' pow_int_small ?a ?b ?c ?_); (case a => (first | ((with_reducible refine (fmod_range _ ?_).1); k_extra "om") | ((with_reducible refine (sub_fmod _ ?_).1); k_extra "om") | k_extra "om")); (case b => (first | ((with_reducible refine Int.le_of_lt (Int.lt_of_lt_of_le (fmod_range _ ?_).2 ?_)) <;> k_extra "om") | ((with_reducible refine Int.le_trans (sub_fmod _ ?_).2 ?_) <;> k_extra "om") | k_extra "om")); (case c => decide)))
local macro_rules | `(tactic| walk_at "binaryOp LShift int int") => `(tactic| (k_here; (with_reducible refine' lshift_int_small ?a ?b ?c ?_); (case a => (first | ((with_reducible refine (fmod_range _ ?_).1); k_extra "om") | ((with_reducible refine (sub_fmod _ ?_).1); k_extra "om") | k_extra "om")); (case b => (first | ((with_reducible refine Int.le_of_lt (Int.lt_of_lt_of_le (fmod_range _ ?_).2 ?_)) <;> k_extra "om") | ((with_reducible refine Int.le_trans (sub_fmod _ ?_).2 ?_) <;> k_extra "om") | k_extra "om")); (case c => (first | decide | (exact small_of (by k_extra "om") (by k_extra "om") (by k_extra "om"))))))
local macro_rules | `(tactic| walk_at "binaryOp RShift int int") => `(tactic| (k_here; (with_reducible refine' rshift_int ?a ?_); (case a => (first | ((with_reducible refine (fmod_range _ ?_).1); k_extra "om") | ((with_reducible refine (sub_fmod _ ?_).1); k_extra "om") | k_extra "om"))))
local macro_rules | `(tactic| walk_at "inplaceOp Mod int int") => `(tactic| (k_here; (with_reducible refine' imod_int ?a ?_); (case a => (first | (with_reducible exact Int.ne_of_gt (pow_pos_of (by decide) _)) | decide | k_extra "om"))))
local macro_rules | `(tactic| walk_at "binaryOp Mod int int") => `(tactic| (k_here; (with_reducible refine' mod_int' ?a ?_); (case a => (first | (with_reducible exact Int.ne_of_gt (pow_pos_of (by decide) _)) | decide | k_extra "om"))))
local macro_rules | `(tactic| walk_at "subscriptTail Name BinOp ref int") => `(tactic| (k_here; (with_reducible show wpAny _ _ (subscriptTail _ _ (Value.ref _) (Value.int _ _)) _ _ _); (with_unfolding_all refine' item_list_ints ?k1 ?k2 ?k3 ?k4 ?k5 ?_; (case k1 => is_list); (case k2 => l_ints); (case k3 => k_dflt (first | ((with_reducible refine (fmod_range _ ?_).1); k_extra "om") | ((with_reducible refine (sub_fmod _ ?_).1); k_extra "om") | k_extra "om")); (case k4 => k_dflt ((try simp only [List.length_map, List.length_append, List.length_drop, List.length_cons, List.length_nil, rangeKs_length]); (first | ((with_reducible refine Int.lt_of_lt_of_le (fmod_range _ ?_).2 ?_) <;> k_extra "om") | k_extra "om"))); (case k5 => k_dflt (first | ((with_reducible refine Int.lt_of_lt_of_le (fmod_range _ ?_).2 ?_) <;> k_extra "om") | k_extra "om")); k_whole); intro _))
local macro_rules | `(tactic| walk_at "subscriptTail Name Name ref int") => `(tactic| (k_here; (with_reducible show wpAny _ _ (subscriptTail _ _ (Value.ref _) (Value.int _ _)) _ _ _); (with_unfolding_all refine' item_list_ints ?k1 ?k2 ?k3 ?k4 ?k5 ?_; (case k1 => is_list); (case k2 => l_ints); (case k3 => k_dflt (first | ((with_reducible refine (fmod_range _ ?_).1); k_extra "om") | ((with_reducible refine (sub_fmod _ ?_).1); k_extra "om") | k_extra "om")); (case k4 => k_dflt ((try simp only [List.length_map, List.length_append, List.length_drop, List.length_cons, List.length_nil, rangeKs_length]); (first | ((with_reducible refine Int.lt_of_lt_of_le (fmod_range _ ?_).2 ?_) <;> k_extra "om") | k_extra "om"))); (case k5 => k_dflt (first | ((with_reducible refine Int.lt_of_lt_of_le (fmod_range _ ?_).2 ?_) <;> k_extra "om") | k_extra "om")); k_whole); intro _))
local macro_rules | `(tactic| walk_at "CutI") => `(tactic| (refine' cutI_end ?cP ?cF ?cN ?cS; (case cF => k_asm); (case cN => assumption); (case cS => kcj_all); (case cP => k_extra "cut")))
local macro_rules | `(tactic| walk_at "binaryOp Mult int int") => `(tactic| (k_here; (with_reducible refine' mul_int ?_ (mul_bit _ ?m ?n)); (case n => with_reducible assumption); (case m => (first | (with_reducible assumption) | (with_reducible exact code01 _ _) | (with_reducible exact mirror01 (code01 _ _) _ _)))))
local macro_rules | `(tactic| walk_at "storeName") => `(tactic| (k_here; (refine gen_w (R := fun W => wpAny _ _ (storeName _ _ (Value.int W _)) _ _ _) (by first | assumption | exact (fmod_range _ (by decide)).1) (by first | assumption | exact (fmod_range _ (by decide)).2) ?_); intro W' hW1' hW2'))
local macro_rules | `(tactic| walk_at "call ref") => `(tactic| (k_here; (with_reducible show wpAny _ _ (call (Value.ref (ktn_at% "_law_spelled")) _) _ _ _); (fail_if_success (with_reducible show wpAny _ _ _ (fun v s₂ => CutI _ _ _ _ _ _ v s₂) _ _)); (refine' cut_spl ?cF ?cN ?cI ?cM ?cB ?_ ?_; (case cF => k_asm); (case cN => k_asm); (case cI => with_reducible assumption); (case cM => k_dflt k_memK); (case cB => with_reducible exact mirror01 (code01 _ _) _ _); (intro x9 t9 h9 tk9 hx9 F9 N9); (try dsimp only); rotate_left; (intro ws9 l9 hi9 hb9); (repeat ((with_reducible rename News _ _ _ _ => nB); clear nB)); (intro N8); (repeat ((with_reducible rename (_ < _ ∧ _) => nB); clear nB)); (repeat ((with_reducible rename ((_ ≠ _) ∧ _) => nB); clear nB)); (repeat ((with_reducible rename SpInv _ _ _ => nB); clear nB)); (repeat ((with_reducible rename (_ ≤ (List.length _)) => nB); clear nB)); (repeat ((with_reducible rename (List.length _ = _) => nB); clear nB)); rotate_right)))
local macro_rules | `(tactic| walk_at "call ref") => `(tactic| (k_here; (with_reducible show wpAny _ _ (call (Value.ref (ktn_at% "_law_word")) _) _ _ _); (fail_if_success (with_reducible show wpAny _ _ _ (fun v s₂ => CutI _ _ _ _ _ _ v s₂) _ _)); (refine' cutW ?cF ?cN ?_ ?_; (case cF => k_asm); (case cN => k_asm); (intro x9 t9 h9 tk9 hx1 hx2 F9 N9); (try dsimp only))))
local macro_rules | `(tactic| walk_at "storeName") => `(tactic| ((with_reducible rename (List.length _ = (rangeKs _ _).length) => hq9); (rw [rangeKs_length] at hq9); (with_reducible rename EntInv _ _ _ _ => hq8); (rw [rangeKs_length] at hq8); walk_at "storeName"))
local macro_rules | `(tactic| walk_at "InvEndN") => `(tactic| ((with_reducible rename Bits01 _ => hbX); (rename News _ _ _ _ => nE'); (try simp only [List.push_toArray] at nE'); k_dflt (refine kst_end ⟨_, _, _, _⟩ (by assumption) nE' (by first | kst_in | kst_inAny) (by first | (intro p hp; kst_mem) | kst_anyIn) (by rfl) (by kst_facts) (by kst_all) (by kst_same) (by kst_p))))
set_option maxRecDepth 100000 in
set_option maxHeartbeats 80000000 in
theorem PySem.Challenge.cw_pd_bitworks_2_03_holds : PySem.Challenge.rw_pd_bitworks_2_03.Holds := by
  (k_with "om" => ((repeat ((with_reducible rename ((_ ≠ _) ∧ _) => hz9); clear hz9)); (repeat ((with_reducible rename (((_ ≠ _) ∧ _) ∧ _) => hz9); clear hz9)); (try ((with_reducible rename (_ < (0 : Int) + _) => hq9); (simp only [List.length_map, rangeKs_length] at hq9))); (try simp only [List.length_append, List.length_drop, List.length_cons, List.length_nil]); omega))
  (k_with "tree" => first | exact sp_end (by assumption) | exact tgI_eq (by assumption) | exact parT_eq (by assumption) | (unfold cell7; (repeat (first | rw [if_pos (by assumption)] | rw [if_neg (by assumption)])); done) | exact (parT_eq (by assumption)).symm | exact fg_end (by assumption) (by assumption) | exact (fg_end (by assumption) (by assumption)).symm )
  (k_with "call ref" => k_call_by "_law_cell" cell7 (fun _ i => 0 ≤ i))
  (k_with "call ref" => k_call_by "to_gray" tgI (fun n => 0 ≤ n))
  (k_with "call ref" => k_call_by "from_gray" fgI (fun n => 0 ≤ n))
  (k_with "call ref" => k_call_by "parity" parI (fun n => 0 ≤ n))
  (k_with "fact to_gray" => exact tgI_nn)
  (k_with "fact from_gray" => exact fgI_nn)
  (k_with "cut" => first | (with_reducible exact sp_w (by assumption)) | exact fmod_range _ (pw_pos _) | exact ⟨by assumption, by assumption⟩)
  (k_with "pyIter ref" => k_state_given ["bound"] (fun bound pre word => 0 ≤ word ∧ word < bound) "word")
  (k_with "pyIter ref" => k_state_given ["word!"] (fun w0 pre word entries => entries.length = pre.length ∧ EntInv w0 pre.length word entries) "word" "entries")
  (k_with "pyIter ref" => k_state_given ["entries"] (fun entries pre total sums => sums.length = entries.length ∧ Bits01 sums ∧ RunInv entries pre.length total sums) "total" "sums")
  (k_with "exec While Compare cons nil" => k_while_given ["g!"] (fun g0 _ n g => FgInv g0 n g) (fun g0 _ n g => g.toNat) "n" "g")
  (k_with "measure" => exact fg_less (by assumption))
  (k_with "state" => first | (with_reducible first | exact rstart _ | exact rturn (by assumption) (by assumption) (by assumption) (by assumption) (by assumption) | exact ent_start _ | exact ent_turn (by assumption) (by assumption) | exact sp_start | exact sp_turn (by assumption) | exact fg_start (by assumption) | exact fg_step (by assumption) | exact fmod_range _ (pw_pos _) | exact ⟨Int.le_refl _, pw_pos _⟩) | exact rstart _ | exact rturn (by assumption) (by assumption) (by assumption) (by assumption) (by assumption) | exact ent_start _ | exact ent_turn (by assumption) (by assumption) | exact sp_start | exact sp_turn (by assumption) | exact fg_start (by assumption) | exact fg_step (by assumption) | exact fmod_range _ (pw_pos _) | exact ⟨Int.le_refl _, pw_pos _⟩)
  (k_with "pyIter ref" => k_state (fun pre number weight => SpInv pre number weight) "number" "weight")
  (k_with "end" => ((with_reducible show (false == true) = true); exfalso; (first | (with_reducible exact gend1 (by assumption) (by assumption) (by assumption) (by assumption) (by assumption) (by assumption)) | (with_reducible exact gend2 (by assumption) (by assumption) (by assumption) (by assumption) (by assumption) (by assumption) (by assumption)) | (with_reducible exact gend3 (by assumption) (by assumption)) | (with_reducible exact gend4 (by assumption) (by assumption)) | (with_reducible exact gend5 (by assumption) (by assumption) (by assumption) (by assumption) (by assumption) (by assumption)) | (with_reducible exact gend6 (by assumption) (by assumption) (by assumption) (by assumption) (by assumption)) | (with_reducible exact gend7 (by assumption) (by assumption) (by assumption) (by assumption) (by assumption) (by assumption)) | (with_reducible exact gend8 (by assumption) (by assumption) (by assumption) (by assumption)) | (with_reducible exact gend9 (by assumption) (by assumption) (by assumption) (by assumption) (by assumption) (by assumption)) | (with_reducible exact gend10 (by assumption) (by assumption) (by assumption) (by assumption) (by assumption) (by assumption)))))
  open_k
