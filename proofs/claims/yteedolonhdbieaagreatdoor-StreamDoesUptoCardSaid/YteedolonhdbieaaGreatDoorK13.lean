/- StreamDoes and its parts, laid together by a program of ours: Ce4 Pg2 Pg3 Pg4 Pg5 Pg6 Ar1 Ar2 Ar3 Ar5 Ar8 -/
import Derived.Test.YteedolonhdbieaaGreatDoorK12
set_option autoImplicit false
set_option linter.all false
section
namespace Go.Proofs.YteedolonhdbieaaGreatDoor
open Go Go.Vc
set_option maxRecDepth 100000
def tab (n : Nat) (f : Nat -> Int) : List Int := (List.range n).map f
@[simp] theorem tab_length (n : Nat) (f : Nat -> Int) : (tab n f).length = n := by simp [tab]
theorem tab_get (n : Nat) (f : Nat -> Int) (i : Nat) : (tab n f)[i]? = if i < n then some (f i) else none := by
 unfold tab
 rw [List.getElem?_map]
 by_cases h : i < n
 ·rw [List.getElem?_range h, if_pos h]; rfl
 ·rw [if_neg h, List.getElem?_eq_none (by simpa using h)]; rfl
theorem tab_set (n : Nat) (f : Nat -> Int) (k : Nat) (v : Int) : (tab n f).set k v = tab n (fun i => if i = k then v else f i) := by
 apply List.ext_getElem?
 intro i
 rw [List.getElem?_set, tab_get, tab_get]
 by_cases h : k = i
 ·subst h; simp
 ·rw [if_neg h]; simp only [show (i = k) = False by simp; omega, if_false]
theorem tab_ext {n : Nat} {f g : Nat -> Int} (h : ∀ i, i < n -> f i = g i) : tab n f = tab n g := by
 apply List.ext_getElem?
 intro i
 rw [tab_get, tab_get]
 split
 ·rw [h i (by assumption)]
 ·rfl
theorem zeros_tab (n : Nat) : zeros n = tab n fun _ => 0 := by
 apply List.ext_getElem?
 intro i
 rw [tab_get]
 unfold zeros
 by_cases h : i < n
 ·rw [List.getElem?_replicate, if_pos h]
  try rw [if_pos h]
 ·rw [List.getElem?_replicate, if_neg h]
  try rw [if_neg h]
theorem ints_tab_set (k : IntKind) (n : Nat) (f : Nat -> Int) (j : Nat) (v : Int) : splice (ints k (tab n f)) j [.int k v] = ints k (tab n (fun i => if i = j then v else f i)) := by
 rw [splice_cons, splice_nil, ints_set, tab_set]
def byteAt (n : Int) (i : Nat) : Int := IntKind.u8.wrap (n.fdiv (2 ^ (8 * i)))
theorem wrap_u8_byte (n : Int) : isByte (IntKind.u8.wrap n) := by unfold isByte; rw [IntKind.wrap_u8]; omega
def compl8 (x : Int) : Int := bits .xor .u8 255 x
/-! ### The sum -/
abbrev b32 (x : Int) : BitVec 32 := BitVec.ofInt 32 x
theorem w32_nat (v : BitVec 32) : IntKind.u32.wrap (v.toNat : Int) = (v.toNat : Int) := by
 have := v.isLt
 rw [IntKind.wrap_u32]; omega
theorem b32_nat (v : BitVec 32) : b32 (v.toNat : Int) = v := by simp [b32]
theorem bits_xor32 (x y : Int) : bits .xor .u32 x y = ((b32 x ^^^ b32 y).toNat : Int) := w32_nat (b32 x ^^^ b32 y)
theorem bits_and32 (x y : Int) : bits .and .u32 x y = ((b32 x &&& b32 y).toNat : Int) := w32_nat (b32 x &&& b32 y)
def is32 (x : Int) : Prop := 0 ≤ x /\ x < 2 ^ 32
theorem is32_nat (v : BitVec 32) : is32 (v.toNat : Int) := by have := v.isLt; unfold is32; omega
theorem of32 {x : Int} (h : is32 x) : ((b32 x).toNat : Int) = x := by
 unfold is32 at h
 simp only [BitVec.toNat_ofInt]
 omega
def crcStep (x : Int) : Int := if bits .and .u32 x 1 = 1 then bits .xor .u32 (x.fdiv (2 ^ 1)) 3988292384 else x.fdiv (2 ^ 1)
def crcIt : Nat -> Int -> Int
 | 0, x => x
 | n + 1, x => crcIt n (crcStep x)
def vStep (v : BitVec 32) : BitVec 32 := if v.getLsbD 0 = true then (v >>> 1) ^^^ 3988292384#32 else v >>> 1
def vIt : Nat -> BitVec 32 -> BitVec 32
 | 0, v => v
 | n + 1, v => vIt n (vStep v)
theorem shr_nat (v : BitVec 32) (k : Nat) : ((v.toNat : Int)).fdiv (2 ^ k) = ((v >>> k).toNat : Int) := by
 rw [BitVec.toNat_ushiftRight, Nat.shiftRight_eq_div_pow, Int.fdiv_eq_ediv_of_nonneg _ (Int.le_of_lt (Int.pow_pos (by decide)))]
 simp
theorem crcStep_v (v : BitVec 32) : crcStep (v.toNat : Int) = ((vStep v).toNat : Int) := by
 unfold crcStep vStep
 rw [bits_and32, shr_nat, b32_nat]
 have : ((((v &&& b32 1).toNat : Nat) : Int) = 1) ↔ v.getLsbD 0 = true := by
  have e1 : b32 1 = 1#32 := by decide
  rw [e1]
  have : (v &&& 1#32).toNat = v.toNat % 2 := by
   rw [BitVec.toNat_and]
   exact Nat.and_one_is_mod _
  rw [this]
  have : v.getLsbD 0 = decide (v.toNat % 2 = 1) := by
   rw [BitVec.getLsbD, Nat.testBit_zero]
  rw [this, decide_eq_true_eq]; omega
 by_cases h : v.getLsbD 0 = true
 ·rw [if_pos (this.2 h), if_pos h, bits_xor32, b32_nat]; rfl
 ·rw [if_neg (fun x => h (this.1 x)), if_neg h]
theorem crcIt_v (n : Nat) : ∀ v : BitVec 32, crcIt n (v.toNat : Int) = ((vIt n v).toNat : Int) := by
 induction n with
 | zero => intro v; rfl
 | succ n ih => intro v; unfold crcIt vIt; rw [crcStep_v, ih]
theorem vStep_xor (v w : BitVec 32) : vStep (v ^^^ w) = vStep v ^^^ vStep w := by
 unfold vStep
 have e : (v ^^^ w) >>> 1 = (v >>> 1) ^^^ (w >>> 1) := BitVec.ushiftRight_xor_distrib v w 1
 rw [BitVec.getLsbD_xor, e]
 generalize v >>> 1 = a
 generalize w >>> 1 = b
 generalize 3988292384#32 = P
 cases v.getLsbD 0 <;> cases w.getLsbD 0 <;> simp only [Bool.xor_true, Bool.xor_false, Bool.not_true, Bool.not_false, Bool.false_eq_true, if_true, if_false]
 all_goals
  ext i hi
  simp only [BitVec.getElem_xor]
  cases a[i] <;> cases b[i] <;> cases P[i] <;> rfl
theorem vIt_xor (n : Nat) : ∀ v w : BitVec 32, vIt n (v ^^^ w) = vIt n v ^^^ vIt n w := by
 induction n with
 | zero => intro v w; rfl
 | succ n ih => intro v w; unfold vIt; rw [vStep_xor, ih]
theorem vIt_low (n : Nat) : ∀ v : BitVec 32, (∀ i, i < n -> v.getLsbD i = false) -> vIt n v = v >>> n := by
 induction n with
 | zero => intro v _; simp [vIt]
 | succ n ih =>
  intro v h
  unfold vIt
  have : vStep v = v >>> 1 := by unfold vStep; rw [h 0 (by omega)]; simp
  rw [this, ih]
  ·rw [← BitVec.shiftRight_add, Nat.add_comm]
  ·intro i hi
   rw [BitVec.getLsbD_ushiftRight]
   have := h (1 + i) (by omega)
   exact this
theorem crc_one (v : BitVec 32) (c : Int) (hc : isByte c) : bits .xor .u32 (crcIt 8 (IntKind.u32.wrap (bits .xor .u8 (IntKind.u8.wrap (v.toNat : Int)) c))) ((v.toNat : Int).fdiv (2 ^ 8)) = crcIt 8 (bits .xor .u32 (v.toNat : Int) (IntKind.u32.wrap c)) := by
 rw [shr_nat, bits_xor8, bits_xor32, bits_xor32]
 obtain ⟨c1, c2⟩ := hc
 have hw : IntKind.u32.wrap c = c := by rw [IntKind.wrap_u32]; omega
 rw [hw]
 have low : (IntKind.u32.wrap ((b8 (IntKind.u8.wrap (v.toNat : Int)) ^^^ b8 c).toNat : Int)) = (((v &&& 255#32) ^^^ b32 c).toNat : Int) := by
  have h1 : (b8 (IntKind.u8.wrap (v.toNat : Int)) ^^^ b8 c).toNat < 256 := (b8 (IntKind.u8.wrap (v.toNat : Int)) ^^^ b8 c).isLt
  rw [IntKind.wrap_u32]
  have h2 : (b8 (IntKind.u8.wrap (v.toNat : Int)) ^^^ b8 c).toNat = ((v &&& 255#32) ^^^ b32 c).toNat := by
   rw [BitVec.toNat_xor, BitVec.toNat_xor, BitVec.toNat_and]
   have e1 : (b8 (IntKind.u8.wrap (v.toNat : Int))).toNat = v.toNat % 256 := by
    simp only [BitVec.toNat_ofInt]; rw [IntKind.wrap_u8]; omega
   have e2 : (b8 c).toNat = c.toNat := by simp only [BitVec.toNat_ofInt]; omega
   have e3 : (b32 c).toNat = c.toNat := by simp only [BitVec.toNat_ofInt]; omega
   have e4 : v.toNat &&& (255#32).toNat = v.toNat % 256 := Nat.and_two_pow_sub_one_eq_mod v.toNat 8
   rw [e1, e2, e3, e4]
  omega
 rw [low, crcIt_v, b32_nat, b32_nat, b32_nat, crcIt_v]
 congr 1
 have split : v ^^^ b32 c = ((v &&& 255#32) ^^^ b32 c) ^^^ (v &&& ~~~ 255#32) := by
  ext i hi
  simp only [BitVec.getElem_xor, BitVec.getElem_and, BitVec.getElem_not]
  cases v[i] <;> cases (b32 c)[i] <;> cases (255#32)[i] <;> rfl
 rw [split, vIt_xor 8 (v &&& 255#32 ^^^ b32 c) (v &&& ~~~ 255#32)]
 congr 1
 have hb : ∀ i, i < 8 -> (v &&& ~~~ 255#32).getLsbD i = false := by
  intro i hi
  have : (~~~ 255#32).getLsbD i = false := by
   have : ∀ i, i < 8 -> (~~~ 255#32).getLsbD i = false := by decide
   exact this i hi
  rw [BitVec.getLsbD_and, this, Bool.and_false]
 rw [vIt_low 8 _ hb]
 congr 1
 ext i hi
 simp only [BitVec.getElem_ushiftRight, BitVec.getLsbD_and]
 have : ∀ j, j < 32 -> (~~~ 255#32).getLsbD j = decide (8 ≤ j) := by decide
 by_cases hj : 8 + i < 32
 ·rw [this _ hj]; simp
 ·rw [BitVec.getLsbD_of_ge _ _ (by omega)]; simp
def crcF (x : Int) (c : Int) : Int := bits .xor .u32 (crcIt 8 (IntKind.u32.wrap (bits .xor .u8 (IntKind.u8.wrap x) c))) (x.fdiv (2 ^ 8))
def crcG (x : Int) (c : Int) : Int := crcIt 8 (bits .xor .u32 x (IntKind.u32.wrap c))
theorem crcFG {x c : Int} (hx : is32 x) (hc : isByte c) : crcF x c = crcG x c /\ is32 (crcG x c) := by
 have e := of32 hx
 have := crc_one (b32 x) c hc
 rw [e] at this
 refine ⟨this, ?_⟩
 unfold crcG
 rw [bits_xor32, crcIt_v]
 exact is32_nat _
def crcM (bs : List Int) : Int := bits .xor .u32 4294967295 (bs.foldl crcG 4294967295)
theorem crc_fold (bs : List Int) (hb : bytesOk bs) : ∀ x, is32 x -> bs.foldl crcF x = bs.foldl crcG x := by
 induction bs with
 | nil => intro x _; rfl
 | cons c r ih =>
  intro x hx
  obtain ⟨e1, e2⟩ := crcFG hx (hb c (by simp))
  rw [List.foldl_cons, List.foldl_cons, e1]
  exact ih (fun n hn => hb n (by simp [hn])) _ e2
theorem crcM_is (bs : List Int) : is32 (crcM bs) := by unfold crcM; rw [bits_xor32]; exact is32_nat _
/-! ### Numbers of eight bytes -/
abbrev b64 (x : Int) : BitVec 64 := BitVec.ofInt 64 x
theorem wrap_u64' (n : Int) : IntKind.u64.wrap n = n % 18446744073709551616 := by simp [IntKind.wrap, IntKind.bits, IntKind.signed]
theorem b64_nat (v : BitVec 64) : b64 (v.toNat : Int) = v := by simp [b64]
theorem or_u64 (x y : Int) : b64 (bits .or .u64 x y) = b64 x ||| b64 y := by
 have : bits .or .u64 x y = IntKind.u64.wrap ((b64 x ||| b64 y).toNat : Int) := rfl
 rw [this]
 have h := (b64 x ||| b64 y).isLt
 have : IntKind.u64.wrap ((b64 x ||| b64 y).toNat : Int) = ((b64 x ||| b64 y).toNat : Int) := by rw [wrap_u64']; omega
 rw [this, b64_nat]
theorem wrap_b64u (x : Int) : b64 (IntKind.u64.wrap x) = b64 x := by
 apply BitVec.eq_of_toNat_eq
 simp only [BitVec.toNat_ofInt]
 rw [wrap_u64']; omega
theorem wrap_b64i (x : Int) : b64 (IntKind.i64.wrap x) = b64 x := by
 apply BitVec.eq_of_toNat_eq
 simp only [BitVec.toNat_ofInt]
 rw [IntKind.wrap_i64]; omega
theorem or_i64 (x y : Int) : b64 (bits .or .i64 x y) = b64 x ||| b64 y := by
 have : bits .or .i64 x y = IntKind.i64.wrap ((b64 x ||| b64 y).toNat : Int) := rfl
 rw [this, wrap_b64i, b64_nat]
theorem wrap_of_b64 {x y : Int} (h : b64 x = b64 y) : IntKind.i64.wrap x = IntKind.i64.wrap y := by
 have h2 := congrArg BitVec.toNat h
 simp only [BitVec.toNat_ofInt] at h2
 rw [IntKind.wrap_i64, IntKind.wrap_i64]; omega
def gotU (l : List Int) : Nat -> Int
 | 0 => 0
 | n + 1 => bits .or .u64 (gotU l n) (IntKind.u64.wrap (IntKind.u64.wrap (l.getD n 0) * 2 ^ (8 * n)))
def gotI (l : List Int) : Nat -> Int
 | 0 => 0
 | n + 1 => bits .or .i64 (gotI l n) (IntKind.i64.wrap (IntKind.i64.wrap (l.getD n 0) * 2 ^ (8 * n)))
theorem got_b (l : List Int) (hb : bytesOk l) (n : Nat) : b64 (gotU l n) = b64 (gotI l n) := by
 induction n with
 | zero => rfl
 | succ n ih =>
  unfold gotU gotI
  rw [or_u64, or_i64, ih, wrap_b64u, wrap_b64i]
  have : isByte (l.getD n 0) := by
   rw [List.getD_eq_getElem?_getD]
   cases e : l[n]? with
   | none => exact ⟨by decide, by decide⟩
   | some v => exact hb v (List.mem_iff_getElem?.2 ⟨n, e⟩)
  obtain ⟨h1, h2⟩ := this
  have e1 : IntKind.u64.wrap (l.getD n 0) = l.getD n 0 := by rw [wrap_u64']; omega
  have e2 : IntKind.i64.wrap (l.getD n 0) = l.getD n 0 := by rw [IntKind.wrap_i64]; omega
  rw [e1, e2]
theorem gotI_range (l : List Int) (n : Nat) : IntKind.i64.wrap (gotI l n) = gotI l n := by
 cases n with
 | zero => exact (by decide : IntKind.i64.wrap 0 = 0)
 | succ n =>
  unfold gotI
  have : ∀ x y, IntKind.i64.wrap (bits .or .i64 x y) = bits .or .i64 x y := by
   intro x y
   have : bits .or .i64 x y = IntKind.i64.wrap ((b64 x ||| b64 y).toNat : Int) := rfl
   rw [this, IntKind.wrap_i64, IntKind.wrap_i64]; omega
  exact this _ _
theorem got_eq (l : List Int) (hb : bytesOk l) (n : Nat) : IntKind.i64.wrap (gotU l n) = gotI l n := by
 rw [wrap_of_b64 (got_b l hb n), gotI_range]
end Go.Proofs.YteedolonhdbieaaGreatDoor
/- Contracts of sums, rails and cells. Own work. -/
set_option maxRecDepth 100000
namespace Go.Proofs.YteedolonhdbieaaGreatDoor
open Go Go.Vc
section
variable {h0 h : H} {A : List Ent} {i j p r b : Nat} {C : Cm}
theorem max32 : (if IntKind.u32.signed = true then (-1 : Int) else IntKind.u32.max) = 4294967295 := by decide
theorem max8 : (if IntKind.u8.signed = true then (-1 : Int) else IntKind.u8.max) = 255 := by decide
theorem Sat.tab_to {N : Nat} {f g : Nat -> Int} {k : IntKind} (hs : Sat h0 (blk b (ints k (tab N f)) :: A) h) (e : ∀ i, i < N -> f i = g i) : Sat h0 (blk b (ints k (tab N g)) :: A) h := by
 rw [← tab_ext e]; exact hs
theorem Sat.part (hs : Sat h0 A h) {ms xs : List Int} {k : IntKind} (m : At A i (blk b (ints k ms))) (o : Nat) (e : (ms.drop o).take xs.length = xs) : hsv h (some ⟨b, o, none⟩) 1 xs.length (ints k xs) := by
 refine ⟨by simp, ints_one _ _, Or.inr ⟨_, rfl, hs.cs m ?_⟩⟩
 rw [ints_length]
 unfold ints
 rw [← List.map_drop, ← List.map_take, e]
theorem hsv_int {p : Option Addr} {l : Nat} {k : IntKind} {ns : List Int} {x : Nat} (rd : hsv h p 1 l (ints k ns)) (hx : x < l) : ∃ q, p = some q /\ hc h (q.add x) = some (.int k (ns.getD x 0)) := by
 have hl : ns.length = l := by have := rd.1; simpa using this
 obtain ⟨q, hq, g⟩ := hsv_get rd (i := x) (v := .int k (ns.getD x 0)) (by rw [ints_get, List.getElem?_eq_getElem (by omega)]; simp [List.getD, List.getElem?_eq_getElem (show x < ns.length by omega)])
 exact ⟨q, hq, g⟩
theorem eight_sp {Q : Int -> H -> Prop} {x : Int} (hs : Sat h0 A h) (k : ∀ h', Sat h0 A h' -> Q (crcIt 8 (IntKind.u32.wrap x)) h') : F_crc_eight x Q h := by
 unfold F_crc_eight G_crc_eight
 intro J hJ
 generalize hR : crcIt 8 (IntKind.u32.wrap x) = R at k
 refine loop_st 8 (fun n (y : Int) => [.dv (.one (.int .u32 y)), .dv (.one (.int .i64 (n : Int)))]) (fun n y h => Sat h0 A h /\ crcIt (8 - n) y = R) ?_ ?_ 0 _ _ (by omega) ⟨hs, hR⟩
 ·rintro n y h1 hn ⟨hs, hy⟩ hk
  apply hJ
  rw [ltI_eq, if_pos (by simp; omega)]
  refine ⟨by decide, ?_⟩
  obtain ⟨m, hm⟩ : ∃ m, 8 - n = m + 1 := ⟨7 - n, by omega⟩
  rw [hm] at hy
  unfold crcIt crcStep at hy
  rw [wrap_succ (by omega)]
  split
  ·rename_i h2
   intro _ e; subst e
   refine hk _ _ ⟨hs, ?_⟩
   rw [if_pos (by simpa using h2)] at hy
   rw [show 8 - (n + 1) = m by omega]; exact hy
  ·rename_i h2
   refine hk _ _ ⟨hs, ?_⟩
   rw [if_neg (by simpa using h2)] at hy
   rw [show 8 - (n + 1) = m by omega]; exact hy
 ·rintro y h1 ⟨hs, hy⟩
  apply hJ
  rw [ltI_eq, if_neg (by simp)]
  have hy : y = R := hy
  rw [hy]
  exact k _ hs
theorem getD_snoc (bs : List Int) (n : Nat) (hn : n < bs.length) (f : Int -> Int -> Int) (x : Int) : (bs.take (n + 1)).foldl f x = f ((bs.take n).foldl f x) (bs.getD n 0) := by
 rw [List.take_succ, List.foldl_append]
 simp [List.getElem?_eq_getElem hn]
theorem Write_sp {Q : H -> Prop} {t : Int} {s : Nat} {q : Option Addr} {l c : Nat} {bs : List Int} (hs : Sat h0 A h) (m : At A i (blk s [.int .u32 t])) (rd : ∀ h', Sat h0 A h' -> hsv h' q 1 l (ints .u8 bs)) (hl : l < 2 ^ 62)
  (k : ∀ h', Sat h0 (put A i (blk s [.int .u32 (bits .xor .u32 4294967295 (bs.foldl crcF (bits .xor .u32 4294967295 t)))])) h' -> Q h') : F_crc_Sum_Write ⟨s, 0, none⟩ q l c Q h := by
 unfold F_crc_Sum_Write G_crc_Sum_Write
 simp only [max32]
 refine ⟨_, hs.ld m rfl, ?_⟩
 have hbl : bs.length = l := by have := (rd _ hs).1; simpa using this
 intro J hJ
 refine loop_st l (fun n (_ : Unit) => [.dv (.one (.int .u32 ((bs.take n).foldl crcF (bits .xor .u32 4294967295 t)))), .dv (.one (.int .i64 (n : Int)))]) (fun n _ h => Sat h0 A h) ?_ ?_ 0 () _ (by omega) hs
 ·intro n _ h1 hn hs hk
  apply hJ
  rw [ltI_eq, if_pos (by simp; omega)]
  obtain ⟨q', hq, g⟩ := hsv_int (rd _ hs) hn
  refine ⟨_, hq, by omega, by omega, _, by rw [Int.toNat_natCast, Nat.mul_one]; exact g, ?_⟩
  refine eight_sp hs ?_
  intro h2 hs
  refine ⟨by decide, ?_⟩
  have := hk () _ hs
  rw [getD_snoc bs n (by omega)] at this
  rw [wrap_succ (by omega)]
  exact this
 ·intro _ h1 hs
  apply hJ
  rw [ltI_eq, if_neg (by simp), List.take_of_length_le (by omega)]
  refine ⟨hs.can m (by simp), ?_⟩
  intro h2 e
  exact k _ (hs.wr m e)
theorem crcOf_sp {Q : Int -> H -> Prop} {q : Option Addr} {l c : Nat} {bs : List Int} (hs : Sat h0 A h) (rd : ∀ h', Sat h0 A h' -> hsv h' q 1 l (ints .u8 bs)) (hb : bytesOk bs) (hl : l < 2 ^ 62)
  (k : ∀ h', Sat h0 A h' -> Q (crcM bs) h') : F_crc_Of q l c Q h := by
 unfold F_crc_Of G_crc_Of F_crc_New G_crc_New
 intro n1 _ hn; replace hs := Sat.new hs hn
 refine ⟨_, rfl, ?_⟩
 refine Write_sp hs .z (fun h' hs' => rd h' hs'.drop) hl ?_
 intro h1 hs
 refine ⟨_, rfl, ?_⟩
 unfold F_crc_Sum_Sum G_crc_Sum_Sum
 refine ⟨_, hs.ld (.z) rfl, ?_⟩
 have e0 : bits .xor .u32 4294967295 0 = 4294967295 := by decide
 rw [e0, crc_fold bs hb _ ⟨by decide, by decide⟩]
 exact k _ hs.drop
theorem step8_eq {n : Nat} (h : n < 8) : min (IntKind.i64.wrap (8 * (n : Int))).toNat 64 = 8 * n := by
 rw [wrap_id (by omega)]; omega
theorem put_sp {Q : H -> Prop} {N o l c : Nat} {f : Nat -> Int} (x : Int) (hs : Sat h0 A h) (m : At A i (blk b (ints .u8 (tab N f)))) (hl : l ≤ 8) (ho : o + l ≤ N)
  (k : ∀ h', Sat h0 (put A i (blk b (ints .u8 (tab N fun k => if o ≤ k /\ k < o + l then byteAt x (k - o) else f k)))) h' -> Q h') : F_cell_put (some ⟨b, o, none⟩) l c x Q h := by
 unfold F_cell_put G_cell_put
 intro J hJ
 refine loop_up l (fun n h => Sat h0 (put A i (blk b (ints .u8 (tab N fun k => if o ≤ k /\ k < o + n then byteAt x (k - o) else f k)))) h) ?_ ?_ 0 _ (by omega) ?_
 ·intro n h1 hn hs hk
  apply hJ
  rw [ltI_eq, if_pos (by simp; omega)]
  rw [step8_eq (by omega)]
  refine ⟨by rw [wrap_id (by omega)]; omega, _, rfl, by omega, by omega, ?_⟩
  rw [Int.toNat_natCast, Nat.mul_one, add_mk]
  refine ⟨hs.can (m.put _) (by simp; omega), ?_⟩
  intro h2 e
  replace hs := hs.wr (m.put _) e
  rw [put_put, ints_tab_set] at hs
  rw [wrap_succ (by omega)]
  refine hk _ ?_
  have : (tab N fun k => if o ≤ k /\ k < o + (n + 1) then byteAt x (k - o) else f k) = tab N (fun i => if i = o + n then IntKind.u8.wrap (x.fdiv (2 ^ (8 * n))) else if o ≤ i /\ i < o + n then byteAt x (i - o) else f i) := by
   apply tab_ext
   intro i hi
   by_cases e : i = o + n
   ·rw [if_pos e, if_pos (by omega), e, Nat.add_sub_cancel_left]; rfl
   ·rw [if_neg e]
    by_cases e2 : o ≤ i /\ i < o + n
    ·rw [if_pos e2, if_pos (by omega)]
    ·rw [if_neg e2, if_neg (by omega)]
  rw [this]; exact hs
 ·intro h1 hs
  apply hJ
  rw [ltI_eq, if_neg (by simp)]
  exact k _ hs
 ·have : (tab N fun k => if o ≤ k /\ k < o + 0 then byteAt x (k - o) else f k) = tab N f := tab_ext fun i _ => if_neg (by omega)
  rw [this, m.put_self]; exact hs
theorem got_sp {Q : Int -> H -> Prop} {q : Option Addr} {l c : Nat} {bs : List Int} (hs : Sat h0 A h) (rd : ∀ h', Sat h0 A h' -> hsv h' q 1 l (ints .u8 bs)) (hl : l ≤ 8) (k : ∀ h', Sat h0 A h' -> Q (gotU bs l) h') : F_cell_got q l c Q h := by
 unfold F_cell_got G_cell_got
 intro J hJ
 refine loop_st l (fun n (_ : Unit) => [.dv (.one (.int .u64 (gotU bs n))), .dv (.one (.int .i64 (n : Int)))]) (fun n _ h => Sat h0 A h) ?_ ?_ 0 () _ (by omega) hs
 ·intro n _ h1 hn hs hk
  apply hJ
  rw [ltI_eq, if_pos (by simp; omega)]
  obtain ⟨q', hq, g⟩ := hsv_int (rd _ hs) hn
  refine ⟨_, hq, by omega, by omega, _, by rw [Int.toNat_natCast, Nat.mul_one]; exact g, by rw [wrap_id (by omega)]; omega, ?_⟩
  rw [step8_eq (by omega), wrap_succ (by omega)]
  exact hk () _ hs
 ·intro _ h1 hs
  apply hJ
  rw [ltI_eq, if_neg (by simp)]
  exact k _ hs
theorem flat_bytes (n : Nat) : (List.replicate n [Value.int .u8 0]).flatten = ints .u8 (tab n fun _ => 0) := by
 rw [← zeros_tab]; simp [ints, zeros]
theorem railPut_sp {Q : Option Addr -> Nat -> Nat -> H -> Prop} {q : Option Addr} {l c : Nat} {bs : List Int} (hs : Sat h0 A h) (rd : ∀ h', Sat h0 A h' -> hsv h' q 1 l (ints .u8 bs)) (hl : l ≤ 2 ^ 40)
  (k : ∀ n h', Sat h0 (blk n (ints .u8 (tab (2 * l) fun k => if k < l then bs.getD k 0 else compl8 (bs.getD (k - l) 0))) :: A) h' -> Q (some ⟨n, 0, none⟩) (2 * l) (2 * l) h') : F_rail_Put q l c Q h := by
 unfold F_rail_Put G_rail_Put
 have e1 : IntKind.i64.wrap (2 * (l : Int)) = ((2 * l : Nat) : Int) := by rw [wrap_id (by omega)]; omega
 simp only [e1, max8, Int.toNat_natCast]
 refine ⟨by omega, by omega, by omega, by omega, ?_⟩
 intro n1 _ hn
 rw [flat_bytes] at hn
 replace hs := Sat.new hs hn
 unfold F_rail_halves G_rail_halves
 have e2 : IntKind.i64.wrap ((((2 * l : Nat) : Int)).tdiv 2) = (l : Int) := by rw [Int.tdiv_eq_ediv_of_nonneg (by omega), wrap_id (by omega)]; omega
 simp only [e2, e1, Int.toNat_natCast]
 refine ⟨by decide, by omega, by omega, by omega, by omega, by omega, by omega, by omega, ?_⟩
 have hbl : bs.length = l := by have := (rd _ hs.drop).1; simpa using this
 intro J hJ
 have a1 : 0 < l -> subAddr (some ⟨n1, 0, none⟩) 0 l 1 = some ⟨n1, 0, none⟩ := by
  intro h; unfold subAddr; rw [if_neg (by omega)]; simp [add_mk]
 have a2 : 0 < l -> subAddr (some ⟨n1, 0, none⟩) l (2 * l) 1 = some ⟨n1, l, none⟩ := by
  intro h; unfold subAddr; rw [if_neg (by omega)]; simp [add_mk]
 refine loop_up l (fun n h => Sat h0 (blk n1 (ints .u8 (tab (2 * l) fun k => if k < n then bs.getD k 0 else if l ≤ k /\ k < l + n then compl8 (bs.getD (k - l) 0) else 0)) :: A) h) ?_ ?_ 0 _ (by omega) ?_
 ·intro n h1 hn hs hk
  apply hJ
  rw [ltI_eq, if_pos (by simp; omega)]
  obtain ⟨q', hq, g⟩ := hsv_int (rd _ hs.drop) hn
  refine ⟨_, hq, by omega, by omega, _, by rw [Int.toNat_natCast, Nat.mul_one]; exact g, ?_⟩
  refine ⟨_, hq, by omega, by omega, _, by rw [Int.toNat_natCast, Nat.mul_one]; exact g, ?_⟩
  refine ⟨_, a1 (by omega), by omega, by omega, ?_⟩
  rw [Int.toNat_natCast, Nat.mul_one, add_mk]
  refine ⟨hs.can .z (by simp; omega), ?_⟩
  intro h2 e
  replace hs := hs.wr .z e
  rw [put_zero, ints_tab_set] at hs
  refine ⟨_, a2 (by omega), by omega, by omega, ?_⟩
  rw [add_mk]
  refine ⟨hs.can .z (by simp; omega), ?_⟩
  intro h3 e
  replace hs := hs.wr .z e
  rw [put_zero, ints_tab_set] at hs
  rw [wrap_succ (by omega)]
  refine hk _ ?_
  refine Sat.tab_to hs fun i hi => ?_
  by_cases e : i = l + n
  ·rw [if_pos e, if_neg (by omega), if_pos (by omega), e, Nat.add_sub_cancel_left]; rfl
  ·rw [if_neg e]
   by_cases e2 : i = 0 + n
   ·rw [if_pos e2, if_pos (by omega), show i = n by omega]
   ·rw [if_neg e2]
    by_cases e3 : i < n
    ·rw [if_pos e3, if_pos (by omega)]
    ·rw [if_neg e3]
     by_cases e4 : l ≤ i /\ i < l + n
     ·rw [if_pos e4, if_neg (show ¬ i < n + 1 by omega), if_pos (show l ≤ i /\ i < l + (n + 1) by omega)]
     ·rw [if_neg e4, if_neg (show ¬ i < n + 1 by omega), if_neg (show ¬ (l ≤ i /\ i < l + (n + 1)) by omega)]
 ·intro h1 hs
  apply hJ
  rw [ltI_eq, if_neg (by simp)]
  refine k _ _ ?_
  refine Sat.tab_to hs fun i hi => ?_
  by_cases e : i < l
  ·rw [if_pos e, if_pos e]
  ·rw [if_neg e, if_neg e, if_pos (by omega)]
 ·refine Sat.tab_to hs fun i hi => ?_
  rw [if_neg (by omega), if_neg (by omega)]
def bodyF (kind slot n : Int) (k : Nat) : Int := if k = 0 then kind else if k = 1 then IntKind.u8.wrap slot else if k < 4 then 0 else if k < 12 then byteAt (IntKind.u64.wrap n) (k - 4) else 0
def bodyM (kind slot n : Int) (k : Nat) : Int := if 12 ≤ k then byteAt (crcM (tab 12 (bodyF kind slot n))) (k - 12) else bodyF kind slot n k
def laidM (kind slot n : Int) : List Int := tab 32 fun k => if k < 16 then bodyM kind slot n k else compl8 (bodyM kind slot n (k - 16))
theorem bodyF_byte {kind slot n : Int} (hk : isByte kind) (k : Nat) : isByte (bodyF kind slot n k) := by
 unfold bodyF
 repeat' split
 ·exact hk
 ·exact wrap_u8_byte _
 ·exact ⟨by decide, by decide⟩
 ·exact wrap_u8_byte _
 ·exact ⟨by decide, by decide⟩
theorem tab_bytes {n : Nat} {f : Nat -> Int} (h : ∀ k, isByte (f k)) : bytesOk (tab n f) := by
 intro x hx
 simp only [tab, List.mem_map] at hx
 obtain ⟨k, _, rfl⟩ := hx
 exact h k
theorem laid_sp {Q : List Int -> H -> Prop} (kind slot n : Int) (hk : isByte kind) (hs : Sat h0 A h) (k : ∀ h', Sat h0 A h' -> Q (laidM kind slot n) h') : F_cell_laid kind slot n Q h := by
 unfold F_cell_laid G_cell_laid
 try simp only [add_mk, Nat.zero_add, List.append_nil]
 intro n1 _ hn; replace hs := Sat.new hs hn
 intro n2 _ hn; replace hs := Sat.new hs hn
 (refine ⟨Sat.can hs (by repeat constructor) (by simp), ?_⟩; intro _ e; replace hs := Sat.wra hs (by repeat constructor) e (by simp [*]); clear e; simp only [put] at hs)
 have e0 : [kind, IntKind.u8.wrap slot, 0, 0, 0, 0, 0, 0, 0, 0, 0, 0, 0, 0, 0, 0] = tab 16 (fun k => if k = 0 then kind else if k = 1 then IntKind.u8.wrap slot else 0) := rfl
 rw [e0] at hs
 refine ⟨by decide, by decide, by decide, ?_⟩
 rw [show subAddr (some ⟨n2, 0, none⟩) 4 16 1 = some ⟨n2, 4, none⟩ from rfl]
 refine put_sp (IntKind.u64.wrap n) hs .z (by decide) (by decide) ?_
 intro h1 hs
 rw [put_zero] at hs
 have e1 : (tab 16 fun k => if 4 ≤ k /\ k < 4 + 8 then byteAt (IntKind.u64.wrap n) (k - 4) else if k = 0 then kind else if k = 1 then IntKind.u8.wrap slot else 0) = tab 16 (bodyF kind slot n) := by
  apply tab_ext
  intro i hi
  unfold bodyF
  by_cases q1 : i = 0
  ·rw [if_neg (by omega), if_pos q1, if_pos q1]
  by_cases q2 : i = 1
  ·rw [if_neg (by omega), if_neg q1, if_pos q2, if_neg q1, if_pos q2]
  rw [if_neg q1, if_neg q2, if_neg q1, if_neg q2]
  by_cases q3 : i < 4
  ·rw [if_neg (by omega), if_pos q3]
  rw [if_neg q3]
  by_cases q4 : i < 12
  ·rw [if_pos (by omega), if_pos q4]
  ·rw [if_neg (by omega), if_neg q4]
 rw [e1] at hs
 refine ⟨by decide, by decide, by decide, by decide, ?_⟩
 have e2 : ((tab 16 (bodyF kind slot n)).drop 0).take (tab 12 (bodyF kind slot n)).length = tab 12 (bodyF kind slot n) := rfl
 refine crcOf_sp (bs := tab 12 (bodyF kind slot n)) hs (fun h' hs' => Sat.part hs' .z 0 e2) (tab_bytes (bodyF_byte hk)) (by decide) ?_
 intro h2 hs
 have e3 : IntKind.u64.wrap (crcM (tab 12 (bodyF kind slot n))) = crcM (tab 12 (bodyF kind slot n)) := by
  obtain ⟨c1, c2⟩ := crcM_is (tab 12 (bodyF kind slot n))
  rw [wrap_u64']; omega
 rw [e3]
 refine put_sp (crcM (tab 12 (bodyF kind slot n))) hs .z (by decide) (by decide) ?_
 intro h3 hs
 rw [put_zero] at hs
 have e4 : (tab 16 fun k => if 12 ≤ k /\ k < 12 + 4 then byteAt (crcM (tab 12 (bodyF kind slot n))) (k - 12) else bodyF kind slot n k) = tab 16 (bodyM kind slot n) := by
  apply tab_ext
  intro i hi
  unfold bodyM
  by_cases q1 : 12 ≤ i
  ·rw [if_pos (by omega), if_pos q1]
  ·rw [if_neg (by omega), if_neg q1]
 rw [e4] at hs
 intro n3 _ hn; replace hs := Sat.new hs hn
 have e5 : ((tab 16 (bodyM kind slot n)).drop 0).take (tab 16 (bodyM kind slot n)).length = tab 16 (bodyM kind slot n) := rfl
 refine railPut_sp (bs := tab 16 (bodyM kind slot n)) hs (fun h' hs' => Sat.part hs' zs1 0 e5) (by decide) ?_
 intro n4 h4 hs
 have e6 : (tab (2 * 16) fun k => if k < 16 then (tab 16 (bodyM kind slot n)).getD k 0 else compl8 ((tab 16 (bodyM kind slot n)).getD (k - 16) 0)) = laidM kind slot n := rfl
 rw [e6] at hs
 have hll : (laidM kind slot n).length = 32 := rfl
 refine ⟨ints .u8 (laidM kind slot n), ⟨by rw [ints_length, hll]; rfl, ints_one _ _, Or.inr ⟨_, rfl, hs.cs .z (by rw [ints_length, hll]; exact List.take_of_length_le (by rw [List.drop_zero, ints_length, hll]; decide))⟩⟩, Or.inr ⟨_, rfl, hs.can zs1 (by decide)⟩, ?_⟩
 intro h5 e
 replace hs := Sat.wra hs zs1 e (by rw [ints_length, ints_length, hll]; rfl)
 simp only [put] at hs
 refine ⟨_, hll, hs.row0 zs1, ?_⟩
 (refine ⟨Sat.can hs (by repeat constructor) (by simp), ?_⟩; intro _ e; replace hs := Sat.wra hs (by repeat constructor) e (by simp [*]); clear e; simp only [put] at hs)
 refine ⟨_, hll, hs.row0 (by repeat constructor), ?_⟩
 exact k _ hs.drop.drop.drop.drop
end
end Go.Proofs.YteedolonhdbieaaGreatDoor
/- Contracts of cells: Head, Value, Blank, Read. Own work. -/
set_option maxRecDepth 100000
namespace Go.Proofs.YteedolonhdbieaaGreatDoor
open Go Go.Vc
section
variable {h0 h : H} {A : List Ent} {i j p r b : Nat} {C : Cm}
theorem Sat.whole (hs : Sat h0 A h) {vs : List Value} (m : At A i (blk b vs)) : hcs h ⟨b, 0, none⟩ vs := hs.cs m (by rw [List.drop_zero, List.take_length])
def most : Int := 4611686018427387904
theorem laidM_length (kind slot n : Int) : (laidM kind slot n).length = 32 := rfl
def headM (n : Int) : List Int × Int := if n < 1 then (zeros 32, 2) else if most < n then (zeros 32, 2) else (laidM 1 0 n, 0)
def valueM (slot n : Int) : List Int × Int := if slot < 0 then (zeros 32, 2) else if 8 < slot then (zeros 32, 2) else if n < 1 then (zeros 32, 2) else if most < n then (zeros 32, 2) else (laidM 2 slot n, 0)
theorem headM_length (n : Int) : (headM n).1.length = 32 := by unfold headM; (repeat' split) <;> rfl
theorem valueM_length (slot n : Int) : (valueM slot n).1.length = 32 := by unfold valueM; (repeat' split) <;> rfl
theorem Head_sp {Q : List Int -> Int -> H -> Prop} (n : Int) (hs : Sat h0 A h) (k : ∀ h', Sat h0 A h' -> Q (headM n).1 (headM n).2 h') : F_cell_Head n Q h := by
 unfold F_cell_Head G_cell_Head
 try simp only [add_mk, Nat.zero_add, List.append_nil]
 intro n1 _ hn; replace hs := Sat.new hs hn
 unfold headM at k
 by_cases h1 : n < 1
 ·rw [if_pos h1] at k
  rw [ltI_eq, if_pos (by simpa using h1)]
  (refine ⟨Sat.can hs (by repeat constructor) (by simp), ?_⟩; intro _ e; replace hs := Sat.wra hs (by repeat constructor) e (by simp [*]); clear e; simp only [put] at hs)
  refine ⟨_, rfl, hs.row0 (by repeat constructor), ?_⟩
  exact k _ hs.drop
 rw [if_neg h1] at k
 rw [ltI_eq, if_neg (by simpa using h1)]
 intro _ e; subst e
 by_cases h2 : most < n
 ·rw [if_pos h2] at k
  rw [ltI_eq, if_pos (by simpa [most] using h2)]
  (refine ⟨Sat.can hs (by repeat constructor) (by simp), ?_⟩; intro _ e; replace hs := Sat.wra hs (by repeat constructor) e (by simp [*]); clear e; simp only [put] at hs)
  refine ⟨_, rfl, hs.row0 (by repeat constructor), ?_⟩
  exact k _ hs.drop
 rw [if_neg h2] at k
 rw [ltI_eq, if_neg (by simpa [most] using h2)]
 refine laid_sp 1 0 n ⟨by decide, by decide⟩ hs ?_
 intro h3 hs
 have hll := laidM_length 1 0 n
 (refine ⟨Sat.can hs (by repeat constructor) (by simp), ?_⟩; intro _ e; replace hs := Sat.wra hs (by repeat constructor) e (by simp [*]); clear e; simp only [put] at hs)
 refine ⟨_, hll, hs.row0 (by repeat constructor), ?_⟩
 exact k _ hs.drop
theorem Value_sp {Q : List Int -> Int -> H -> Prop} (slot n : Int) (hs : Sat h0 A h) (k : ∀ h', Sat h0 A h' -> Q (valueM slot n).1 (valueM slot n).2 h') : F_cell_Value slot n Q h := by
 unfold F_cell_Value G_cell_Value
 try simp only [add_mk, Nat.zero_add, List.append_nil]
 intro n1 _ hn; replace hs := Sat.new hs hn
 unfold valueM at k
 by_cases h1 : slot < 0
 ·rw [if_pos h1] at k
  rw [ltI_eq, if_pos (by simpa using h1)]
  (refine ⟨Sat.can hs (by repeat constructor) (by simp), ?_⟩; intro _ e; replace hs := Sat.wra hs (by repeat constructor) e (by simp [*]); clear e; simp only [put] at hs)
  refine ⟨_, rfl, hs.row0 (by repeat constructor), ?_⟩
  exact k _ hs.drop
 rw [if_neg h1] at k
 rw [ltI_eq, if_neg (by simpa using h1)]
 by_cases h1 : 8 < slot
 ·rw [if_pos h1] at k
  rw [ltI_eq, if_pos (by simpa using h1)]
  (refine ⟨Sat.can hs (by repeat constructor) (by simp), ?_⟩; intro _ e; replace hs := Sat.wra hs (by repeat constructor) e (by simp [*]); clear e; simp only [put] at hs)
  refine ⟨_, rfl, hs.row0 (by repeat constructor), ?_⟩
  exact k _ hs.drop
 rw [if_neg h1] at k
 rw [ltI_eq, if_neg (by simpa using h1)]
 by_cases h1 : n < 1
 ·rw [if_pos h1] at k
  rw [ltI_eq, if_pos (by simpa using h1)]
  (refine ⟨Sat.can hs (by repeat constructor) (by simp), ?_⟩; intro _ e; replace hs := Sat.wra hs (by repeat constructor) e (by simp [*]); clear e; simp only [put] at hs)
  refine ⟨_, rfl, hs.row0 (by repeat constructor), ?_⟩
  exact k _ hs.drop
 rw [if_neg h1] at k
 rw [ltI_eq, if_neg (by simpa using h1)]
 intro _ e; subst e
 by_cases h2 : most < n
 ·rw [if_pos h2] at k
  rw [ltI_eq, if_pos (by simpa [most] using h2)]
  (refine ⟨Sat.can hs (by repeat constructor) (by simp), ?_⟩; intro _ e; replace hs := Sat.wra hs (by repeat constructor) e (by simp [*]); clear e; simp only [put] at hs)
  refine ⟨_, rfl, hs.row0 (by repeat constructor), ?_⟩
  exact k _ hs.drop
 rw [if_neg h2] at k
 rw [ltI_eq, if_neg (by simpa [most] using h2)]
 refine laid_sp 2 slot n ⟨by decide, by decide⟩ hs ?_
 intro h3 hs
 have hll := laidM_length 2 slot n
 (refine ⟨Sat.can hs (by repeat constructor) (by simp), ?_⟩; intro _ e; replace hs := Sat.wra hs (by repeat constructor) e (by simp [*]); clear e; simp only [put] at hs)
 refine ⟨_, hll, hs.row0 (by repeat constructor), ?_⟩
 exact k _ hs.drop
def ffs : List Int := tab 32 fun _ => 255
theorem Blank_sp {Q : List Int -> H -> Prop} (hs : Sat h0 A h) (k : ∀ h', Sat h0 A h' -> Q ffs h') : F_cell_Blank Q h := by
 unfold F_cell_Blank G_cell_Blank
 try simp only [add_mk, Nat.zero_add, List.append_nil]
 intro n1 _ hn; replace hs := Sat.new hs hn
 intro n2 _ hn; replace hs := Sat.new hs hn
 rw [zeros_tab] at hs
 intro J hJ
 refine loop_up 32 (fun n h => Sat h0 (blk n2 (ints .u8 (tab 32 fun i => if i < n then 255 else 0)) :: blk n1 (ints .u8 (tab 32 fun _ => 0)) :: A) h) ?_ ?_ 0 _ (by omega) ?_
 ·intro n h1 hn hs hk
  apply hJ
  rw [ltI_eq, if_pos (by simp; omega)]
  refine ⟨by omega, by omega, ?_⟩
  rw [Int.toNat_natCast, Nat.mul_one]
  refine ⟨hs.can .z (by simp; omega), ?_⟩
  intro h2 e
  replace hs := hs.wr .z e
  rw [put_zero, ints_tab_set] at hs
  rw [wrap_succ (by omega)]
  refine hk _ (Sat.tab_to hs fun i hi => ?_)
  by_cases e : i = n
  ·rw [if_pos e, if_pos (by omega)]
  ·rw [if_neg e]
   by_cases e2 : i < n
   ·rw [if_pos e2, if_pos (by omega)]
   ·rw [if_neg e2, if_neg (by omega)]
 ·intro h1 hs
  apply hJ
  rw [ltI_eq, if_neg (by simp)]
  replace hs := Sat.tab_to (g := fun _ => 255) hs fun i hi => if_pos hi
  refine ⟨ffs, rfl, hs.row0 .z, ?_⟩
  have hll : ffs.length = 32 := rfl
  (refine ⟨Sat.can hs (by repeat constructor) (by simp), ?_⟩; intro _ e; replace hs := Sat.wra hs (by repeat constructor) e (by simp [*]); clear e; simp only [put] at hs)
  refine ⟨_, hll, hs.row0 (by repeat constructor), ?_⟩
  exact k _ hs.drop.drop
 ·exact Sat.tab_to hs fun i hi => (if_neg (by omega)).symm
def recM (x : List Int) : Int × Int × Int :=
 if x = ffs then (0, 0, 0)
 else if gotI ((x.drop 4).take 8) 8 < 1 then (3, 0, 0)
 else if most < gotI ((x.drop 4).take 8) 8 then (3, 0, 0)
 else if x.getD 0 0 = 1 /\ x = laidM 1 0 (gotI ((x.drop 4).take 8) 8) then (1, 0, gotI ((x.drop 4).take 8) 8)
 else if x.getD 0 0 = 2 /\ x.getD 1 0 ≤ 8 /\ x = laidM 2 (x.getD 1 0) (gotI ((x.drop 4).take 8) 8) then (2, x.getD 1 0, gotI ((x.drop 4).take 8) 8)
 else (3, 0, 0)
theorem Read3_sp {Q : Int -> Int -> Int -> H -> Prop} (x : List Int) (hx : x.length = 32) (hb : bytesOk x) (hs : Sat h0 A h) (k : ∀ h', Sat h0 A h' -> Q (recM x).1 (recM x).2.1 (recM x).2.2 h') : F_cell_Read x Q h := by
 unfold F_cell_Read G_cell_Read
 try simp only [add_mk, Nat.zero_add, List.append_nil]
 intro n1 _ hn; replace hs := Sat.new hs hn
 intro n2 _ hn; replace hs := Sat.new hs hn
 refine ⟨by decide, by decide, by decide, ?_⟩
 rw [show subAddr (some ⟨n1, 0, none⟩) 4 32 1 = some ⟨n1, 4, none⟩ from rfl]
 have el : ((x.drop 4).take 8).length = 8 := by simp [hx]
 have e2 : (x.drop 4).take ((x.drop 4).take 8).length = (x.drop 4).take 8 := by rw [el]
 have hsub : bytesOk ((x.drop 4).take 8) := fun v hv => hb v (List.mem_of_mem_drop (List.mem_of_mem_take hv))
 refine got_sp (bs := (x.drop 4).take 8) hs (fun h' hs' => by
  have := Sat.part hs' zs1 4 e2
  rw [el] at this; exact this) (by decide) ?_
 intro h1 hs
 unfold recM at k
 have eg := got_eq ((x.drop 4).take 8) hsub 8
 rw [eg]
 generalize gotI ((x.drop 4).take 8) 8 = g at k
 have x0 := hb (x.getD 0 0) (by rw [List.getD_eq_getElem?_getD, List.getElem?_eq_getElem (by omega)]; exact List.getElem_mem _)
 have x1 := hb (x.getD 1 0) (by rw [List.getD_eq_getElem?_getD, List.getElem?_eq_getElem (by omega)]; exact List.getElem_mem _)
 have g0 : (ints .u8 x)[0]? = some (.int .u8 (x.getD 0 0)) := by rw [ints_get, List.getElem?_eq_getElem (by omega)]; simp [List.getD, List.getElem?_eq_getElem (show 0 < x.length by omega)]
 have g1 : (ints .u8 x)[1]? = some (.int .u8 (x.getD 1 0)) := by rw [ints_get, List.getElem?_eq_getElem (by omega)]; simp [List.getD, List.getElem?_eq_getElem (show 1 < x.length by omega)]
 refine ⟨by decide, by decide, _, hs.ld zs1 g1, x, hx, hs.row0 zs1, ?_⟩
 have ew1 : IntKind.i64.wrap (x.getD 1 0) = x.getD 1 0 := by obtain ⟨q1, q2⟩ := x1; rw [wrap_id (by omega)]
 rw [ew1]
 refine Blank_sp hs ?_
 intro h2 hs
 refine ⟨Sat.whole hs zs1, ?_⟩
 by_cases c1 : x = ffs
 ·rw [if_pos c1] at k
  rw [if_pos (by rw [c1]; simp)]
  (refine ⟨Sat.can hs (by repeat constructor) (by simp), ?_⟩; intro _ e; replace hs := Sat.wra hs (by repeat constructor) e (by simp [*]); clear e; simp only [put] at hs)
  refine ⟨_, Sat.ld hs (by repeat constructor) (by rfl), ?_⟩
  refine ⟨_, Sat.ld hs (by repeat constructor) (by rfl), ?_⟩
  refine ⟨_, Sat.ld hs (by repeat constructor) (by rfl), ?_⟩
  exact k _ hs.drop.drop
 rw [if_neg c1] at k
 rw [if_neg (by simpa using c1)]
 intro J hJ
 have torn : ∀ (bb : Bool), (bb = true -> g < 1 ∨ most < g) -> (bb = false -> ¬ g < 1 /\ ¬ most < g) -> J [.dv (.one (.bool bb))] h2 := by
  intro bb b1 b2
  apply hJ
  by_cases c2 : bb = true
  ·rw [if_pos c2]
   (refine ⟨Sat.can hs (by repeat constructor) (by simp), ?_⟩; intro _ e; replace hs := Sat.wra hs (by repeat constructor) e (by simp [*]); clear e; simp only [put] at hs)
   refine ⟨_, Sat.ld hs (by repeat constructor) (by rfl), ?_⟩
   refine ⟨_, Sat.ld hs (by repeat constructor) (by rfl), ?_⟩
   refine ⟨_, Sat.ld hs (by repeat constructor) (by rfl), ?_⟩
   rcases b1 c2 with b1 | b1
   ·rw [if_pos b1] at k
    exact k _ hs.drop.drop
   ·rw [if_neg (by unfold most at b1; omega), if_pos b1] at k
    exact k _ hs.drop.drop
  rw [if_neg c2]
  obtain ⟨b3, b4⟩ := b2 (by simpa using c2)
  rw [if_neg b3, if_neg b4] at k
  intro J2 hJ2
  have two : ∀ (cc : Bool), (cc = true ↔ x.getD 0 0 = 1 /\ x = laidM 1 0 g) -> ∀ h3, Sat h0 (blk n2 [.int .i64 0, .int .i64 0, .int .i64 0] :: blk n1 (ints .u8 x) :: A) h3 -> J2 [.dv (.one (.bool cc))] h3 := by
   intro cc c3 h3 hs
   apply hJ2
   by_cases c4 : cc = true
   ·rw [if_pos c4]
    rw [if_pos (c3.1 c4)] at k
    (refine ⟨Sat.can hs (by repeat constructor) (by simp), ?_⟩; intro _ e; replace hs := Sat.wra hs (by repeat constructor) e (by simp [*]); clear e; simp only [put] at hs)
    refine ⟨_, Sat.ld hs (by repeat constructor) (by rfl), ?_⟩
    refine ⟨_, Sat.ld hs (by repeat constructor) (by rfl), ?_⟩
    refine ⟨_, Sat.ld hs (by repeat constructor) (by rfl), ?_⟩
    exact k _ hs.drop.drop
   rw [if_neg c4]
   rw [if_neg (fun y => c4 (c3.2 y))] at k
   refine ⟨by decide, by decide, _, hs.ld zs1 g0, ?_⟩
   by_cases c5 : x.getD 0 0 = 2
   case neg =>
    rw [if_neg (fun y => c5 y.1)] at k
    rw [if_neg (by rw [beq_iff_eq]; exact c5)]
    (refine ⟨Sat.can hs (by repeat constructor) (by simp), ?_⟩; intro _ e; replace hs := Sat.wra hs (by repeat constructor) e (by simp [*]); clear e; simp only [put] at hs)
    refine ⟨_, Sat.ld hs (by repeat constructor) (by rfl), ?_⟩
    refine ⟨_, Sat.ld hs (by repeat constructor) (by rfl), ?_⟩
    refine ⟨_, Sat.ld hs (by repeat constructor) (by rfl), ?_⟩
    exact k _ hs.drop.drop
   rw [if_pos (by rw [beq_iff_eq]; exact c5)]
   by_cases c6 : x.getD 1 0 ≤ 8
   case neg =>
    rw [if_neg (fun y => c6 y.2.1)] at k
    rw [leI_eq, if_neg (by rw [decide_eq_true_eq]; exact c6)]
    (refine ⟨Sat.can hs (by repeat constructor) (by simp), ?_⟩; intro _ e; replace hs := Sat.wra hs (by repeat constructor) e (by simp [*]); clear e; simp only [put] at hs)
    refine ⟨_, Sat.ld hs (by repeat constructor) (by rfl), ?_⟩
    refine ⟨_, Sat.ld hs (by repeat constructor) (by rfl), ?_⟩
    refine ⟨_, Sat.ld hs (by repeat constructor) (by rfl), ?_⟩
    exact k _ hs.drop.drop
   rw [leI_eq, if_pos (by rw [decide_eq_true_eq]; exact c6)]
   refine ⟨x, hx, hs.row0 zs1, ?_⟩
   refine laid_sp 2 (x.getD 1 0) g ⟨by decide, by decide⟩ hs ?_
   intro h4 hs
   refine ⟨Sat.whole hs zs1, ?_⟩
   by_cases c7 : x = laidM 2 (x.getD 1 0) g
   ·rw [if_pos ⟨c5, c6, c7⟩] at k
    rw [if_pos (by rw [beq_iff_eq]; exact c7)]
    clear c7
    (refine ⟨Sat.can hs (by repeat constructor) (by simp), ?_⟩; intro _ e; replace hs := Sat.wra hs (by repeat constructor) e (by simp [*]); clear e; simp only [put] at hs)
    refine ⟨_, Sat.ld hs (by repeat constructor) (by rfl), ?_⟩
    refine ⟨_, Sat.ld hs (by repeat constructor) (by rfl), ?_⟩
    refine ⟨_, Sat.ld hs (by repeat constructor) (by rfl), ?_⟩
    exact k _ hs.drop.drop
   ·rw [if_neg (fun y => c7 y.2.2)] at k
    rw [if_neg (by rw [beq_iff_eq]; exact c7)]
    (refine ⟨Sat.can hs (by repeat constructor) (by simp), ?_⟩; intro _ e; replace hs := Sat.wra hs (by repeat constructor) e (by simp [*]); clear e; simp only [put] at hs)
    refine ⟨_, Sat.ld hs (by repeat constructor) (by rfl), ?_⟩
    refine ⟨_, Sat.ld hs (by repeat constructor) (by rfl), ?_⟩
    refine ⟨_, Sat.ld hs (by repeat constructor) (by rfl), ?_⟩
    exact k _ hs.drop.drop
  refine ⟨by decide, by decide, _, hs.ld zs1 g0, ?_⟩
  by_cases c5 : x.getD 0 0 = 1
  ·rw [if_pos (by rw [beq_iff_eq]; exact c5)]
   refine ⟨x, hx, hs.row0 zs1, ?_⟩
   refine laid_sp 1 0 g ⟨by decide, by decide⟩ hs ?_
   intro h4 hs
   refine ⟨Sat.whole hs zs1, ?_⟩
   refine two _ ?_ _ hs
   rw [beq_iff_eq]
   exact ⟨fun y => ⟨c5, y⟩, fun y => y.2⟩
  ·rw [if_neg (by rw [beq_iff_eq]; exact c5)]
   exact two _ ⟨fun y => by simp at y, fun y => absurd y.1 c5⟩ _ hs
 by_cases c2 : g < 1
 ·rw [ltI_eq, if_pos (by simpa using c2)]
  exact torn true (fun _ => Or.inl c2) (fun y => by simp at y)
 ·rw [ltI_eq, if_neg (by simpa using c2)]
  intro _ e; subst e
  rw [ltI_eq]
  refine torn _ (fun y => Or.inr (by simpa [most] using y)) (fun y => ⟨c2, by simpa [most] using y⟩)
end
end Go.Proofs.YteedolonhdbieaaGreatDoor
/- Contracts of the document's cells. Own work. -/
set_option maxRecDepth 100000
namespace Go.Proofs.YteedolonhdbieaaGreatDoor
open Go Go.Vc
section
variable {h0 h : H} {A : List Ent} {i j p r b : Nat} {C : Cm}
theorem tab_succ (n : Nat) (f : Nat -> Int) : tab (n + 1) f = tab n f ++ [f n] := by simp [tab, List.range_succ]
theorem rstep_sp {Q : Int -> H -> Prop} {x : Int} (hs : Sat h0 A h) (k : ∀ h', Sat h0 A h' -> Q (crcStep x) h') : F_portcullisref01_step x Q h := by
 unfold F_portcullisref01_step G_portcullisref01_step
 unfold crcStep at k
 split
 ·rename_i h1
  refine ⟨by decide, ?_⟩
  intro _ e; subst e
  rw [if_pos (by simpa using h1)] at k
  exact k _ hs
 ·rename_i h1
  refine ⟨by decide, ?_⟩
  rw [if_neg (by simpa using h1)] at k
  exact k _ hs
theorem reight_sp {Q : Int -> H -> Prop} {x : Int} (hs : Sat h0 A h) (k : ∀ h', Sat h0 A h' -> Q (crcIt 8 x) h') : F_portcullisref01_eight x Q h := by
 unfold F_portcullisref01_eight G_portcullisref01_eight
 intro J hJ
 generalize hR : crcIt 8 x = R at k
 refine loop_st 8 (fun n (y : Int) => [.dv (.one (.int .u32 y)), .dv (.one (.int .i64 (n : Int)))]) (fun n y h => Sat h0 A h /\ crcIt (8 - n) y = R) ?_ ?_ 0 _ _ (by omega) ⟨hs, hR⟩
 ·rintro n y h1 hn ⟨hs, hy⟩ hk
  apply hJ
  rw [ltI_eq, if_pos (by simp; omega)]
  obtain ⟨m, hm⟩ : ∃ m, 8 - n = m + 1 := ⟨7 - n, by omega⟩
  rw [hm] at hy
  unfold crcIt at hy
  refine rstep_sp hs ?_
  intro h2 hs
  rw [wrap_succ (by omega)]
  exact hk _ _ ⟨hs, by rw [show 8 - (n + 1) = m by omega]; exact hy⟩
 ·rintro y h1 ⟨hs, hy⟩
  apply hJ
  rw [ltI_eq, if_neg (by simp)]
  have hy : y = R := hy
  rw [hy]
  exact k _ hs
theorem rOf_sp {Q : Int -> H -> Prop} {q : Option Addr} {l c : Nat} {bs : List Int} (hs : Sat h0 A h) (rd : ∀ h', Sat h0 A h' -> hsv h' q 1 l (ints .u8 bs)) (hl : l < 2 ^ 62)
  (k : ∀ h', Sat h0 A h' -> Q (crcM bs) h') : F_portcullisref01_Of q l c Q h := by
 unfold F_portcullisref01_Of G_portcullisref01_Of
 simp only [max32]
 have hbl : bs.length = l := by have := (rd _ hs).1; simpa using this
 intro J hJ
 refine loop_st l (fun n (_ : Unit) => [.dv (.one (.int .u32 ((bs.take n).foldl crcG 4294967295))), .dv (.one (.int .i64 (n : Int)))]) (fun n _ h => Sat h0 A h) ?_ ?_ 0 () _ (by omega) hs
 ·intro n _ h1 hn hs hk
  apply hJ
  rw [ltI_eq, if_pos (by simp; omega)]
  obtain ⟨q', hq, g⟩ := hsv_int (rd _ hs) hn
  refine ⟨_, hq, by omega, by omega, _, by rw [Int.toNat_natCast, Nat.mul_one]; exact g, ?_⟩
  refine reight_sp hs ?_
  intro h2 hs
  have := hk () _ hs
  rw [getD_snoc bs n (by omega)] at this
  rw [wrap_succ (by omega)]
  exact this
 ·intro _ h1 hs
  apply hJ
  rw [ltI_eq, if_neg (by simp), List.take_of_length_le (by omega)]
  exact k _ hs
theorem rcell_sp {Q : List Int -> H -> Prop} (kind slot n : Int) (hk : kind = 1 ∨ kind = 2) (n1 : 1 ≤ n) (n2 : n ≤ most) (hs : Sat h0 A h) (k : ∀ h', Sat h0 A h' -> Q (laidM kind slot n) h') : F_portcullisref06_cell kind slot n Q h := by
 unfold F_portcullisref06_cell G_portcullisref06_cell
 try simp only [add_mk, Nat.zero_add, List.append_nil, max8]
 unfold most at n2
 have ek : IntKind.u8.wrap kind = kind := by rcases hk with e | e <;> subst e <;> decide
 have en : IntKind.u64.wrap n = n := by rw [wrap_u64']; omega
 rw [ek]
 intro b1 _ hn; replace hs := Sat.new hs hn
 intro b2 _ hn; replace hs := Sat.new hs hn
 have e0 : [Value.int .u8 kind, .int .u8 (IntKind.u8.wrap slot), .int .u8 0, .int .u8 0] = ints .u8 (tab 4 (bodyF kind slot n)) := rfl
 rw [e0] at hs
 replace hs := hs.as_sl (i := 0) (l := 4) (sz := 1) .z rfl (ints_one _ _)
 rw [put_zero] at hs
 intro J hJ
 refine loop_st 8 (fun m (s : Option Addr × Nat) => [.dv (.one (.slice s.1 (4 + m) s.2)), .dv (.one (.int .i64 (m : Int)))]) (fun m s h => Sat h0 (slE s.1 (4 + m) s.2 1 (ints .u8 (tab (4 + m) (bodyF kind slot n))) :: blk b1 (ints .u8 (zeros 32)) :: A) h) ?_ ?_ 0 (some ⟨b2, 0, none⟩, 4) _ (by omega) hs
 ·rintro m ⟨sp, sc⟩ h1 hm hs hkk
  apply hJ
  rw [ltI_eq, if_pos (by simp; omega)]
  refine ⟨by rw [wrap_id (by omega)]; omega, ?_⟩
  rw [step8_eq (by omega)]
  intro b3 _ hn; replace hs := Sat.new hs hn
  refine ⟨_, hs.bv (l := 1) .z (by simp) (by simp), ?_⟩
  refine Sat.app hs zs1 (by simp) rfl (by simp) (by omega) ?_
  intro p' c' h2 hs
  rw [put_succ, put_zero] at hs
  rw [wrap_succ (by omega)]
  refine hkk (p', c') _ ?_
  have e1 : tab (4 + (m + 1)) (bodyF kind slot n) = tab (4 + m) (bodyF kind slot n) ++ [IntKind.u8.wrap (n.fdiv (2 ^ (8 * m)))] := by
   rw [show 4 + (m + 1) = (4 + m) + 1 by omega, tab_succ]
   congr 2
   unfold bodyF
   rw [if_neg (by omega), if_neg (by omega), if_neg (by omega), if_pos (by omega), en, show 4 + m - 4 = m by omega]
   rfl
  rw [e1]
  have := hs.drop
  rw [Nat.add_assoc] at this
  simpa [ints] using this
 ·rintro ⟨sp, sc⟩ h1 hs
  apply hJ
  rw [ltI_eq, if_neg (by simp)]
  clear hJ J
  dsimp only at hs
  refine rOf_sp (bs := tab 12 (bodyF kind slot n)) hs (fun h' hs' => hs'.sv .z) (by omega) ?_
  intro h2 hs
  generalize hcr : crcM (tab 12 (bodyF kind slot n)) = cr
  intro J hJ
  have e2 : tab 12 (bodyF kind slot n) = tab 12 (bodyM kind slot n) := tab_ext fun i hi => by unfold bodyM; rw [if_neg (by omega)]
  have hs1 : Sat h0 (slE sp (12 + 0) sc 1 (ints .u8 (tab (12 + 0) (bodyM kind slot n))) :: blk b1 (ints .u8 (zeros 32)) :: A) h2 := by
   rw [Nat.add_zero, ← e2]; exact hs
  refine loop_st 4 (fun m (s : Option Addr × Nat) => [.dv (.one (.slice s.1 (12 + m) s.2)), .dv (.one (.int .i64 (m : Int)))]) (fun m s h => Sat h0 (slE s.1 (12 + m) s.2 1 (ints .u8 (tab (12 + m) (bodyM kind slot n))) :: blk b1 (ints .u8 (zeros 32)) :: A) h) ?_ ?_ 0 (sp, sc) _ (by omega) hs1
  ·rintro m ⟨sp, sc⟩ h1 hm hs hkk
   apply hJ
   rw [ltI_eq, if_pos (by simp; omega)]
   refine ⟨by rw [wrap_id (by omega)]; omega, ?_⟩
   have e8 : min (IntKind.i64.wrap (8 * (m : Int))).toNat 32 = 8 * m := by rw [wrap_id (by omega)]; omega
   rw [e8]
   intro b3 _ hn; replace hs := Sat.new hs hn
   refine ⟨_, hs.bv (l := 1) .z (by simp) (by simp), ?_⟩
   refine Sat.app hs zs1 (by simp) rfl (by simp) (by omega) ?_
   intro p' c' h2 hs
   rw [put_succ, put_zero] at hs
   rw [wrap_succ (by omega)]
   refine hkk (p', c') _ ?_
   have e1 : tab (12 + (m + 1)) (bodyM kind slot n) = tab (12 + m) (bodyM kind slot n) ++ [IntKind.u8.wrap (cr.fdiv (2 ^ (8 * m)))] := by
    rw [show 12 + (m + 1) = (12 + m) + 1 by omega, tab_succ]
    congr 2
    unfold bodyM
    rw [if_pos (by omega), hcr, show 12 + m - 12 = m by omega]
    rfl
   rw [e1]
   have := hs.drop
   rw [Nat.add_assoc] at this
   simpa [ints] using this
  ·rintro ⟨sp, sc⟩ h1 hs
   apply hJ
   rw [ltI_eq, if_neg (by simp)]
   clear hJ J
   dsimp only at hs ⊢
   intro b4 _ hn; replace hs := Sat.new hs hn
   (refine ⟨Sat.can hs (by repeat constructor) (by simp), ?_⟩; intro _ e; replace hs := Sat.wra hs (by repeat constructor) e (by simp [*]); clear e; simp only [put] at hs)
   intro J hJ
   rw [zeros_tab] at hs
   replace hs := Sat.tab_to (g := fun k => if k < 0 then bodyM kind slot n k else if 16 ≤ k /\ k < 16 + 0 then compl8 (bodyM kind slot n (k - 16)) else 0) hs fun i hi => by rw [if_neg (by omega), if_neg (by omega)]
   rw [← zeros_tab] at hs
   refine loop_up 16 (fun m h => Sat h0 (blk b4 (ints .u8 (tab 32 fun k => if k < m then bodyM kind slot n k else if 16 ≤ k /\ k < 16 + m then compl8 (bodyM kind slot n (k - 16)) else 0)) :: slE sp 16 sc 1 (ints .u8 (tab 16 (bodyM kind slot n))) :: blk b1 (ints .u8 (zeros 32)) :: A) h) ?_ ?_ 0 _ (by omega) hs
   ·intro m h3 hm hs hkk
    apply hJ
    rw [ltI_eq, if_pos (by simp; omega)]
    obtain ⟨q', hq, g⟩ := hsv_int (hs.sv zs1) hm
    have eg : (tab 16 (bodyM kind slot n)).getD m 0 = bodyM kind slot n m := by
     rw [List.getD_eq_getElem?_getD, tab_get, if_pos hm]; rfl
    rw [eg] at g
    refine ⟨_, hq, by omega, by omega, _, by rw [Int.toNat_natCast, Nat.mul_one]; exact g, by omega, by omega, ?_⟩
    rw [Int.toNat_natCast, Nat.mul_one]
    refine ⟨hs.can .z (by simp; omega), ?_⟩
    intro h4 e
    replace hs := hs.wr .z e
    rw [put_zero, ints_tab_set] at hs
    obtain ⟨q', hq, g⟩ := hsv_int (hs.sv zs1) hm
    rw [eg] at g
    have ew : IntKind.i64.wrap (16 + (m : Int)) = ((16 + m : Nat) : Int) := by rw [wrap_id (by omega)]; omega
    refine ⟨_, hq, by omega, by omega, _, g, by rw [ew]; omega, by rw [ew]; omega, ?_⟩
    rw [ew, Int.toNat_natCast, Nat.mul_one]
    refine ⟨hs.can .z (by simp; omega), ?_⟩
    intro h5 e
    replace hs := hs.wr .z e
    rw [put_zero, ints_tab_set] at hs
    rw [wrap_succ (by omega)]
    refine hkk _ (Sat.tab_to hs fun i hi => ?_)
    by_cases e : i = 16 + m
    ·rw [if_pos e, if_neg (by omega), if_pos (by omega), e, Nat.add_sub_cancel_left]; rfl
    ·rw [if_neg e]
     by_cases e2 : i = m
     ·rw [if_pos e2, if_pos (by omega), e2]
     ·rw [if_neg e2]
      by_cases e3 : i < m
      ·rw [if_pos e3, if_pos (by omega)]
      ·rw [if_neg e3]
       by_cases e4 : 16 ≤ i /\ i < 16 + m
       ·rw [if_pos e4, if_neg (show ¬ i < m + 1 by omega), if_pos (show 16 ≤ i /\ i < 16 + (m + 1) by omega)]
       ·rw [if_neg e4, if_neg (show ¬ i < m + 1 by omega), if_neg (show ¬ (16 ≤ i /\ i < 16 + (m + 1)) by omega)]
   ·intro h3 hs
    apply hJ
    rw [ltI_eq, if_neg (by simp)]
    replace hs := Sat.tab_to (g := fun k => if k < 16 then bodyM kind slot n k else compl8 (bodyM kind slot n (k - 16))) hs fun i hi => by
     by_cases e : i < 16
     ·rw [if_pos e, if_pos e]
     ·rw [if_neg e, if_neg e, if_pos (by omega)]
    replace hs : Sat h0 (blk b4 (ints .u8 (laidM kind slot n)) :: slE sp 16 sc 1 (ints .u8 (tab 16 (bodyM kind slot n))) :: blk b1 (ints .u8 (zeros 32)) :: A) h3 := hs
    have hll := laidM_length kind slot n
    refine ⟨_, hll, hs.row0 .z, ?_⟩
    (refine ⟨Sat.can hs (by repeat constructor) (by simp), ?_⟩; intro _ e; replace hs := Sat.wra hs (by repeat constructor) e (by simp [*]); clear e; simp only [put] at hs)
    refine ⟨_, hll, hs.row0 (by repeat constructor), ?_⟩
    exact k _ hs.drop.drop.drop
theorem rHead_sp {Q : List Int -> Int -> H -> Prop} (n : Int) (hs : Sat h0 A h) (k : ∀ h', Sat h0 A h' -> Q (headM n).1 (headM n).2 h') : F_portcullisref06_Head n Q h := by
 unfold F_portcullisref06_Head G_portcullisref06_Head
 try simp only [add_mk, Nat.zero_add, List.append_nil]
 intro n1 _ hn; replace hs := Sat.new hs hn
 unfold headM at k
 by_cases h1 : n < 1
 ·rw [if_pos h1] at k
  rw [ltI_eq, if_pos (by simpa using h1)]
  (refine ⟨Sat.can hs (by repeat constructor) (by simp), ?_⟩; intro _ e; replace hs := Sat.wra hs (by repeat constructor) e (by simp [*]); clear e; simp only [put] at hs)
  refine ⟨_, rfl, hs.row0 (by repeat constructor), ?_⟩
  exact k _ hs.drop
 rw [if_neg h1] at k
 rw [ltI_eq, if_neg (by simpa using h1)]
 intro _ e; subst e
 by_cases h2 : most < n
 ·rw [if_pos h2] at k
  rw [ltI_eq, if_pos (by simpa [most] using h2)]
  (refine ⟨Sat.can hs (by repeat constructor) (by simp), ?_⟩; intro _ e; replace hs := Sat.wra hs (by repeat constructor) e (by simp [*]); clear e; simp only [put] at hs)
  refine ⟨_, rfl, hs.row0 (by repeat constructor), ?_⟩
  exact k _ hs.drop
 rw [if_neg h2] at k
 rw [ltI_eq, if_neg (by simpa [most] using h2)]
 refine rcell_sp 1 0 n (Or.inl rfl) (by omega) (by omega) hs ?_
 intro h3 hs
 have hll := laidM_length 1 0 n
 (refine ⟨Sat.can hs (by repeat constructor) (by simp), ?_⟩; intro _ e; replace hs := Sat.wra hs (by repeat constructor) e (by simp [*]); clear e; simp only [put] at hs)
 refine ⟨_, hll, hs.row0 (by repeat constructor), ?_⟩
 exact k _ hs.drop
theorem rValue_sp {Q : List Int -> Int -> H -> Prop} (slot n : Int) (hs : Sat h0 A h) (k : ∀ h', Sat h0 A h' -> Q (valueM slot n).1 (valueM slot n).2 h') : F_portcullisref06_Value slot n Q h := by
 unfold F_portcullisref06_Value G_portcullisref06_Value
 try simp only [add_mk, Nat.zero_add, List.append_nil]
 intro n1 _ hn; replace hs := Sat.new hs hn
 unfold valueM at k
 by_cases h1 : slot < 0
 ·rw [if_pos h1] at k
  rw [ltI_eq, if_pos (by simpa using h1)]
  (refine ⟨Sat.can hs (by repeat constructor) (by simp), ?_⟩; intro _ e; replace hs := Sat.wra hs (by repeat constructor) e (by simp [*]); clear e; simp only [put] at hs)
  refine ⟨_, rfl, hs.row0 (by repeat constructor), ?_⟩
  exact k _ hs.drop
 rw [if_neg h1] at k
 rw [ltI_eq, if_neg (by simpa using h1)]
 by_cases h1 : 8 < slot
 ·rw [if_pos h1] at k
  rw [ltI_eq, if_pos (by simpa using h1)]
  (refine ⟨Sat.can hs (by repeat constructor) (by simp), ?_⟩; intro _ e; replace hs := Sat.wra hs (by repeat constructor) e (by simp [*]); clear e; simp only [put] at hs)
  refine ⟨_, rfl, hs.row0 (by repeat constructor), ?_⟩
  exact k _ hs.drop
 rw [if_neg h1] at k
 rw [ltI_eq, if_neg (by simpa using h1)]
 by_cases h1 : n < 1
 ·rw [if_pos h1] at k
  rw [ltI_eq, if_pos (by simpa using h1)]
  (refine ⟨Sat.can hs (by repeat constructor) (by simp), ?_⟩; intro _ e; replace hs := Sat.wra hs (by repeat constructor) e (by simp [*]); clear e; simp only [put] at hs)
  refine ⟨_, rfl, hs.row0 (by repeat constructor), ?_⟩
  exact k _ hs.drop
 rw [if_neg h1] at k
 rw [ltI_eq, if_neg (by simpa using h1)]
 intro _ e; subst e
 by_cases h2 : most < n
 ·rw [if_pos h2] at k
  rw [ltI_eq, if_pos (by simpa [most] using h2)]
  (refine ⟨Sat.can hs (by repeat constructor) (by simp), ?_⟩; intro _ e; replace hs := Sat.wra hs (by repeat constructor) e (by simp [*]); clear e; simp only [put] at hs)
  refine ⟨_, rfl, hs.row0 (by repeat constructor), ?_⟩
  exact k _ hs.drop
 rw [if_neg h2] at k
 rw [ltI_eq, if_neg (by simpa [most] using h2)]
 refine rcell_sp 2 slot n (Or.inr rfl) (by omega) (by omega) hs ?_
 intro h3 hs
 have hll := laidM_length 2 slot n
 (refine ⟨Sat.can hs (by repeat constructor) (by simp), ?_⟩; intro _ e; replace hs := Sat.wra hs (by repeat constructor) e (by simp [*]); clear e; simp only [put] at hs)
 refine ⟨_, hll, hs.row0 (by repeat constructor), ?_⟩
 exact k _ hs.drop
theorem rBlank6_sp {Q : List Int -> H -> Prop} (hs : Sat h0 A h) (k : ∀ h', Sat h0 A h' -> Q ffs h') : F_portcullisref06_Blank Q h := by
 unfold F_portcullisref06_Blank G_portcullisref06_Blank
 try simp only [add_mk, Nat.zero_add, List.append_nil]
 intro n1 _ hn; replace hs := Sat.new hs hn
 intro n2 _ hn; replace hs := Sat.new hs hn
 (refine ⟨Sat.can hs (by repeat constructor) (by simp), ?_⟩; intro _ e; replace hs := Sat.wra hs (by repeat constructor) e (by simp [*]); clear e; simp only [put] at hs)
 rw [zeros_tab] at hs
 intro J hJ
 replace hs := Sat.tab_to (g := fun i => if i < 0 then 255 else 0) hs fun i hi => (if_neg (by omega)).symm
 refine loop_up 32 (fun n h => Sat h0 (blk n2 (ints .u8 (tab 32 fun i => if i < n then 255 else 0)) :: blk n1 (ints .u8 (tab 32 fun _ => 0)) :: A) h) ?_ ?_ 0 _ (by omega) hs
 ·intro n h1 hn hs hk
  apply hJ
  rw [ltI_eq, if_pos (by simp; omega)]
  refine ⟨by omega, by omega, ?_⟩
  rw [Int.toNat_natCast, Nat.mul_one]
  refine ⟨hs.can .z (by simp; omega), ?_⟩
  intro h2 e
  replace hs := hs.wr .z e
  rw [put_zero, ints_tab_set] at hs
  rw [wrap_succ (by omega)]
  refine hk _ (Sat.tab_to hs fun i hi => ?_)
  by_cases e : i = n
  ·rw [if_pos e, if_pos (by omega)]
  ·rw [if_neg e]
   by_cases e2 : i < n
   ·rw [if_pos e2, if_pos (by omega)]
   ·rw [if_neg e2, if_neg (by omega)]
 ·intro h1 hs
  apply hJ
  rw [ltI_eq, if_neg (by simp)]
  replace hs := Sat.tab_to (g := fun _ => 255) hs fun i hi => if_pos hi
  refine ⟨ffs, rfl, hs.row0 .z, ?_⟩
  have hll : ffs.length = 32 := rfl
  (refine ⟨Sat.can hs (by repeat constructor) (by simp), ?_⟩; intro _ e; replace hs := Sat.wra hs (by repeat constructor) e (by simp [*]); clear e; simp only [put] at hs)
  refine ⟨_, hll, hs.row0 (by repeat constructor), ?_⟩
  exact k _ hs.drop.drop
theorem laid_0 (kind slot n : Int) : (laidM kind slot n).getD 0 0 = kind := rfl
theorem rRead6_sp {Q : Int -> Int -> Int -> H -> Prop} (x : List Int) (hx : x.length = 32) (hb : bytesOk x) (hs : Sat h0 A h) (k : ∀ h', Sat h0 A h' -> Q (recM x).1 (recM x).2.1 (recM x).2.2 h') : F_portcullisref06_Read x Q h := by
 unfold F_portcullisref06_Read G_portcullisref06_Read
 try simp only [add_mk, Nat.zero_add, List.append_nil]
 intro n1 _ hn; replace hs := Sat.new hs hn
 intro n2 _ hn; replace hs := Sat.new hs hn
 refine ⟨x, hx, hs.row0 zs1, ?_⟩
 refine rBlank6_sp hs ?_
 intro h1 hs
 refine ⟨Sat.whole hs zs1, ?_⟩
 unfold recM at k
 by_cases c1 : x = ffs
 ·rw [if_pos c1] at k
  rw [if_pos (by rw [c1]; simp)]
  (refine ⟨Sat.can hs (by repeat constructor) (by simp), ?_⟩; intro _ e; replace hs := Sat.wra hs (by repeat constructor) e (by simp [*]); clear e; simp only [put] at hs)
  refine ⟨_, Sat.ld hs (by repeat constructor) (by rfl), ?_⟩
  refine ⟨_, Sat.ld hs (by repeat constructor) (by rfl), ?_⟩
  refine ⟨_, Sat.ld hs (by repeat constructor) (by rfl), ?_⟩
  exact k _ hs.drop.drop
 rw [if_neg c1] at k
 rw [if_neg (by simpa using c1)]
 intro J hJ
 have el : ((x.drop 4).take 8).length = 8 := by simp [hx]
 refine loop_st 8 (fun n (_ : Unit) => [.dv (.one (.int .i64 (gotI ((x.drop 4).take 8) n))), .dv (.one (.int .i64 (n : Int)))]) (fun n _ h => Sat h0 (blk n2 [.int .i64 0, .int .i64 0, .int .i64 0] :: blk n1 (ints .u8 x) :: A) h) ?_ ?_ 0 () _ (by omega) hs
 ·intro n _ h2 hn hs hk
  apply hJ
  have ew : IntKind.i64.wrap (4 + (n : Int)) = ((4 + n : Nat) : Int) := by rw [wrap_id (by omega)]; omega
  rw [ltI_eq, if_pos (by simp; omega)]
  have gn : (ints .u8 x)[4 + n]? = some (.int .u8 (((x.drop 4).take 8).getD n 0)) := by
   rw [ints_get, List.getElem?_eq_getElem (by omega), List.getD_eq_getElem?_getD, List.getElem?_take, if_pos hn, List.getElem?_drop, List.getElem?_eq_getElem (by omega)]
   rfl
  refine ⟨by rw [ew]; omega, by rw [ew]; omega, _, by rw [ew, Int.toNat_natCast, Nat.mul_one]; exact hs.ld zs1 gn, by rw [wrap_id (by omega)]; omega, ?_⟩
  rw [step8_eq hn, wrap_succ (by omega)]
  exact hk () _ hs
 intro _ h2 hs
 apply hJ
 rw [ltI_eq, if_neg (by simp)]
 clear hJ J
 generalize gotI ((x.drop 4).take 8) 8 = g at k ⊢
 intro J hJ
 have x1 := hb (x.getD 1 0) (by rw [List.getD_eq_getElem?_getD, List.getElem?_eq_getElem (by omega)]; exact List.getElem_mem _)
 have g1 : (ints .u8 x)[1]? = some (.int .u8 (x.getD 1 0)) := by rw [ints_get, List.getElem?_eq_getElem (by omega)]; simp [List.getD, List.getElem?_eq_getElem (show 1 < x.length by omega)]
 have ew1 : IntKind.i64.wrap (x.getD 1 0) = x.getD 1 0 := by obtain ⟨q1, q2⟩ := x1; rw [wrap_id (by omega)]
 have hh := headM_length g
 have hv := valueM_length (x.getD 1 0) g
 -- what is said where it is no head
 have rest : ¬ ((headM g).2 = 0 /\ (headM g).1 = x) -> ∀ h3, Sat h0 (blk n2 [.int .i64 0, .int .i64 0, .int .i64 0] :: blk n1 (ints .u8 x) :: A) h3 -> J [] h3 := by
  intro nh h3 hs
  apply hJ
  refine ⟨by decide, by decide, _, hs.ld zs1 g1, ?_⟩
  rw [ew1]
  refine rValue_sp _ _ hs ?_
  intro h4 hs
  intro n3 _ hn; replace hs := Sat.new hs hn
  generalize hV : valueM (x.getD 1 0) g = V at *
  refine ⟨Sat.can hs (by repeat constructor) (by simp [hv]), ?_⟩
  intro _ e; replace hs := Sat.wra hs (by repeat constructor) e (by rw [ints_length, ints_length, hv]; rfl); clear e; simp only [put] at hs
  have nhead : ¬ (x.getD 0 0 = 1 /\ x = laidM 1 0 g) ∨ g < 1 ∨ most < g := by
   by_cases q1 : g < 1
   ·exact Or.inr (Or.inl q1)
   by_cases q2 : most < g
   ·exact Or.inr (Or.inr q2)
   refine Or.inl fun y => nh ?_
   unfold headM
   rw [if_neg q1, if_neg q2]
   exact ⟨rfl, y.2.symm⟩
  have tornk : ¬ (V.2 = 0 /\ V.1 = x) -> ∀ h', Sat h0 A h' -> Q 3 0 0 h' := by
   intro nv h' hs'
   have := k h' hs'
   by_cases q1 : g < 1
   ·rw [if_pos q1] at this; exact this
   rw [if_neg q1] at this
   by_cases q2 : most < g
   ·rw [if_pos q2] at this; exact this
   rw [if_neg q2] at this
   rw [if_neg (by rcases nhead with y | y | y; exact y; exact absurd y q1; exact absurd y q2)] at this
   rw [if_neg ?_] at this
   ·exact this
   ·rintro ⟨y1, y2, y3⟩
    refine nv ?_
    rw [← hV]
    unfold valueM
    obtain ⟨q3, q4⟩ := x1
    rw [if_neg (by omega), if_neg (by omega), if_neg q1, if_neg q2]
    exact ⟨rfl, y3.symm⟩
  by_cases c2 : V.2 = 0
  case neg =>
   rw [if_neg (by simpa using c2)]
   replace tornk := tornk fun y => c2 y.1
   (refine ⟨Sat.can hs (by repeat constructor) (by simp), ?_⟩; intro _ e; replace hs := Sat.wra hs (by repeat constructor) e (by simp [*]); clear e; simp only [put] at hs)
   refine ⟨_, Sat.ld hs (by repeat constructor) (by rfl), ?_⟩
   refine ⟨_, Sat.ld hs (by repeat constructor) (by rfl), ?_⟩
   refine ⟨_, Sat.ld hs (by repeat constructor) (by rfl), ?_⟩
   exact tornk _ hs.drop.drop.drop
  rw [if_pos (by simpa using c2)]
  refine ⟨_, hv, hs.row0 (by repeat constructor), x, hx, hs.row0 zs2, ?_⟩
  by_cases c3 : V.1 = x
  case neg =>
   rw [if_neg (by rw [beq_iff_eq]; exact c3)]
   replace tornk := tornk fun y => c3 y.2
   (refine ⟨Sat.can hs (by repeat constructor) (by simp), ?_⟩; intro _ e; replace hs := Sat.wra hs (by repeat constructor) e (by simp [*]); clear e; simp only [put] at hs)
   refine ⟨_, Sat.ld hs (by repeat constructor) (by rfl), ?_⟩
   refine ⟨_, Sat.ld hs (by repeat constructor) (by rfl), ?_⟩
   refine ⟨_, Sat.ld hs (by repeat constructor) (by rfl), ?_⟩
   exact tornk _ hs.drop.drop.drop
  rw [if_pos (by rw [beq_iff_eq]; exact c3)]
  refine ⟨by decide, by decide, _, hs.ld zs2 g1, ?_⟩
  rw [ew1]
  have good : ∀ h', Sat h0 A h' -> Q 2 (x.getD 1 0) g h' := by
   intro h' hs'
   have := k h' hs'
   rw [← hV] at c2 c3
   unfold valueM at c2 c3
   obtain ⟨q3, q4⟩ := x1
   rw [if_neg (by omega)] at c2 c3
   by_cases z1 : 8 < x.getD 1 0
   ·rw [if_pos z1] at c2; simp at c2
   rw [if_neg z1] at c2 c3
   by_cases q1 : g < 1
   ·rw [if_pos q1] at c2; simp at c2
   rw [if_neg q1] at c2 c3 this
   by_cases q2 : most < g
   ·rw [if_pos q2] at c2; simp at c2
   rw [if_neg q2] at c2 c3 this
   rw [if_neg (by rcases nhead with y | y | y; exact y; exact absurd y q1; exact absurd y q2)] at this
   dsimp only at c3
   rw [if_pos ⟨by rw [← c3]; exact laid_0 _ _ _, by omega, c3.symm⟩] at this
   exact this
  clear c3
  (refine ⟨Sat.can hs (by repeat constructor) (by simp), ?_⟩; intro _ e; replace hs := Sat.wra hs (by repeat constructor) e (by simp [*]); clear e; simp only [put] at hs)
  refine ⟨_, Sat.ld hs (by repeat constructor) (by rfl), ?_⟩
  refine ⟨_, Sat.ld hs (by repeat constructor) (by rfl), ?_⟩
  refine ⟨_, Sat.ld hs (by repeat constructor) (by rfl), ?_⟩
  exact good _ hs.drop.drop.drop
 refine rHead_sp g hs ?_
 intro h3 hs
 intro n3 _ hn; replace hs := Sat.new hs hn
 generalize hV : headM g = V at *
 refine ⟨Sat.can hs (by repeat constructor) (by simp [hh]), ?_⟩
 intro _ e; replace hs := Sat.wra hs (by repeat constructor) e (by rw [ints_length, ints_length, hh]; rfl); clear e; simp only [put] at hs
 by_cases c2 : V.2 = 0
 case neg =>
  rw [if_neg (by simpa using c2)]
  exact rest (fun y => c2 y.1) _ hs.drop
 rw [if_pos (by simpa using c2)]
 refine ⟨_, hh, hs.row0 (by repeat constructor), x, hx, hs.row0 zs2, ?_⟩
 by_cases c3 : V.1 = x
 case neg =>
  rw [if_neg (by rw [beq_iff_eq]; exact c3)]
  exact rest (fun y => c3 y.2) _ hs.drop
 rw [if_pos (by rw [beq_iff_eq]; exact c3)]
 have good : ∀ h', Sat h0 A h' -> Q 1 0 g h' := by
  intro h' hs'
  have := k h' hs'
  rw [← hV] at c2 c3
  unfold headM at c2 c3
  by_cases q1 : g < 1
  ·rw [if_pos q1] at c2; simp at c2
  rw [if_neg q1] at c2 c3 this
  by_cases q2 : most < g
  ·rw [if_pos q2] at c2; simp at c2
  rw [if_neg q2] at c2 c3 this
  dsimp only at c3
  rw [if_pos ⟨by rw [← c3]; exact laid_0 _ _ _, c3.symm⟩] at this
  exact this
 clear c3 rest
 (refine ⟨Sat.can hs (by repeat constructor) (by simp), ?_⟩; intro _ e; replace hs := Sat.wra hs (by repeat constructor) e (by simp [*]); clear e; simp only [put] at hs)
 refine ⟨_, Sat.ld hs (by repeat constructor) (by rfl), ?_⟩
 refine ⟨_, Sat.ld hs (by repeat constructor) (by rfl), ?_⟩
 refine ⟨_, Sat.ld hs (by repeat constructor) (by rfl), ?_⟩
 exact good _ hs.drop.drop.drop
end
end Go.Proofs.YteedolonhdbieaaGreatDoor
end
section
namespace Go.Proofs.YteedolonhdbieaaGreatDoor
open Go Go.Vc
set_option maxRecDepth 100000
structure Inf where
 head : Int
 nums : List Int
 next : Int
 blank : Bool
 torn : Int
abbrev infV (a : Int) (l : List Int) (n : Int) (b : Bool) (t : Int) : List Value := .int .i64 a :: (ints .i64 l ++ [.int .i64 n, .bool b, .int .i64 t])
abbrev infI (I : Inf) : List Value := infV I.head I.nums I.next I.blank I.torn
def inf0 : Inf := ⟨0, zeros 9, 0, false, 0⟩
theorem inf_10 {a n t : Int} {l : List Int} {b : Bool} (h : l.length = 9) : (infV a l n b t)[10]? = some (.int .i64 n) := by
 have : (ints .i64 l).length = 9 := by simpa using h
 simp [infV, this]
theorem inf_11 {a n t : Int} {l : List Int} {b : Bool} (h : l.length = 9) : (infV a l n b t)[11]? = some (.bool b) := by
 have : (ints .i64 l).length = 9 := by simpa using h
 simp [infV, this]
theorem inf_12 {a n t : Int} {l : List Int} {b : Bool} (h : l.length = 9) : (infV a l n b t)[12]? = some (.int .i64 t) := by
 have : (ints .i64 l).length = 9 := by simpa using h
 simp [infV, this]
theorem inf_num {a n t : Int} {l : List Int} {b : Bool} (h : l.length = 9) {i : Nat} (hi : i < 9) : (infV a l n b t)[1 + i]? = some (.int .i64 (l.getD i 0)) := by
 have : (ints .i64 l).length = 9 := by simpa using h
 rw [infV, Nat.add_comm, List.getElem?_cons_succ, List.getElem?_append_left (by omega), ints_get, List.getElem?_eq_getElem (by omega)]
 simp [List.getD, List.getElem?_eq_getElem (show i < l.length by omega)]
theorem inf_row {a n t : Int} {l : List Int} {b : Bool} (h : l.length = 9) : ∀ i, i < l.length -> (infV a l n b t)[1 + i]? = l[i]?.map (Value.int .i64) := by
 intro i hi
 rw [inf_num h (by omega), List.getElem?_eq_getElem hi]
 simp [List.getD, List.getElem?_eq_getElem hi]
theorem inf_len {a n t : Int} {l : List Int} {b : Bool} (h : l.length = 9) : (infV a l n b t).length = 13 := by simp [infV, h]
theorem inf_s0 {a n t v : Int} {l : List Int} {b : Bool} : splice (infV a l n b t) 0 [.int .i64 v] = infV v l n b t := rfl
theorem set_app (l : List Value) (x y : List Value) (i : Nat) (v : Value) : (l ++ x).set (l.length + i) v = l ++ x.set i v := by
 rw [List.set_append_right _ _ (by omega), Nat.add_sub_cancel_left]
theorem inf_s10 {a n t v : Int} {l : List Int} {b : Bool} (h : l.length = 9) : splice (infV a l n b t) 10 [.int .i64 v] = infV a l v b t := by
 have h9 : (ints .i64 l).length = 9 := by simpa using h
 show (infV a l n b t).set 10 (.int .i64 v) = _
 unfold infV
 rw [List.set_cons_succ, show 9 = (ints .i64 l).length + 0 by omega, set_app _ _ []]
 rfl
theorem inf_s11 {a n t : Int} {l : List Int} {b v : Bool} (h : l.length = 9) : splice (infV a l n b t) 11 [.bool v] = infV a l n v t := by
 have h9 : (ints .i64 l).length = 9 := by simpa using h
 show (infV a l n b t).set 11 (.bool v) = _
 unfold infV
 rw [List.set_cons_succ, show 10 = (ints .i64 l).length + 1 by omega, set_app _ _ []]
 rfl
theorem inf_s12 {a n t v : Int} {l : List Int} {b : Bool} (h : l.length = 9) : splice (infV a l n b t) 12 [.int .i64 v] = infV a l n b v := by
 have h9 : (ints .i64 l).length = 9 := by simpa using h
 show (infV a l n b t).set 12 (.int .i64 v) = _
 unfold infV
 rw [List.set_cons_succ, show 11 = (ints .i64 l).length + 2 by omega, set_app _ _ []]
 rfl
theorem inf_sn {a n t v : Int} {l : List Int} {b : Bool} (h : l.length = 9) {i : Nat} (hi : i < 9) : splice (infV a l n b t) (1 + i) [.int .i64 v] = infV a (l.set i v) n b t := by
 have h9 : (ints .i64 l).length = 9 := by simpa using h
 show (infV a l n b t).set (1 + i) (.int .i64 v) = _
 unfold infV
 rw [Nat.add_comm, List.set_cons_succ, List.set_append_left _ _ (by omega), ints_set]
def nextM (I : Inf) (n kind : Int) : Inf := if kind ≠ 0 then { I with next := IntKind.i64.wrap (n + 1) } else I
def layN (I : Inf) (n kind slot num : Int) : Inf :=
 if kind = 3 then { I with torn := IntKind.i64.wrap (I.torn + 1) }
 else if kind = 1 /\ n = 0 then { I with head := num }
 else if kind = 2 /\ 0 < n then { I with nums := I.nums.set slot.toNat (if num > I.nums.getD slot.toNat 0 then num else I.nums.getD slot.toNat 0) }
 else I
def layM (I : Inf) (n kind slot num : Int) : Inf := layN (nextM I n kind) n kind slot num
theorem nextM_nums (I : Inf) (n kind : Int) : (nextM I n kind).nums = I.nums := by unfold nextM; split <;> rfl
theorem layN_len (I : Inf) (n kind slot num : Int) : (layN I n kind slot num).nums.length = I.nums.length := by
 unfold layN
 split
 ·rfl
 ·split
  ·rfl
  ·split
   ·simp
   ·rfl
theorem layM_len (I : Inf) (n kind slot num : Int) : (layM I n kind slot num).nums.length = I.nums.length := by
 unfold layM; rw [layN_len, nextM_nums]
section
variable {h0 h : H} {A : List Ent} {i j p r b : Nat} {C : Cm}
theorem lay_sp {Q : H -> Prop} (I : Inf) (hl : I.nums.length = 9) (hs : Sat h0 A h) (m : At A i (blk b (infI I))) (n kind slot num : Int) (hslot : kind = 2 -> 0 ≤ slot /\ slot ≤ 8)
  (k : ∀ h', Sat h0 (put A i (blk b (infI (layM I n kind slot num)))) h' -> Q h') : F_page_Info_lay ⟨b, 0, none⟩ n kind slot num Q h := by
 unfold F_page_Info_lay G_page_Info_lay
 try simp only [add_mk, Nat.zero_add, List.append_nil]
 intro n1 _ hn; replace hs := Sat.new hs hn
 intro J hJ
 unfold layM at k
 -- behind the first if
 have main : ∀ (I : Inf), I.nums.length = 9 -> (∀ h', Sat h0 (put A i (blk b (infI (layN I n kind slot num)))) h' -> Q h') -> ∀ h2, Sat h0 (blk n1 [.int .i64 kind, .int .i64 slot, .int .i64 num] :: put A i (blk b (infI I))) h2 -> J [] h2 := by
  intro I hl k h2 hs
  unfold layN at k
  have m2 := (m.put (blk b (infI I))).s (x := blk n1 [.int .i64 kind, .int .i64 slot, .int .i64 num])
  apply hJ
  refine ⟨_, Sat.ld hs (by repeat constructor) (by rfl), ?_⟩
  by_cases c1 : kind = 3
  ·rw [if_pos c1] at k
   rw [if_pos (by simpa using c1)]
   refine ⟨_, hs.ld m2 (inf_12 hl), hs.can m2 (by rw [inf_len hl]; decide), ?_⟩
   intro h3 e
   replace hs := hs.wr m2 e
   rw [inf_s12 hl] at hs
   refine k _ ?_
   have := hs
   simp only [put_succ, put_put] at this
   exact this.drop
  rw [if_neg c1] at k
  rw [if_neg (by simpa using c1)]
  intro J2 hJ2
  have two : ∀ bb : Bool, (bb = true ↔ kind = 1 /\ n = 0) -> J2 [.dv (.one (.bool bb))] h2 := by
   intro bb c2
   apply hJ2
   by_cases c3 : bb = true
   ·rw [if_pos c3]
    rw [if_pos (c2.1 c3)] at k
    refine ⟨_, Sat.ld hs (by repeat constructor) (by rfl), ?_⟩
    refine ⟨hs.can m2 (by rw [inf_len hl]; decide), ?_⟩
    intro h3 e
    replace hs := hs.wr m2 e
    rw [inf_s0] at hs
    refine k _ ?_
    have := hs
    simp only [put_succ, put_put] at this
    exact this.drop
   rw [if_neg c3]
   rw [if_neg (fun y => c3 (c2.2 y))] at k
   refine ⟨_, Sat.ld hs (by repeat constructor) (by rfl), ?_⟩
   by_cases c4 : kind = 2
   case neg =>
    rw [if_neg (fun y => c4 y.1)] at k
    rw [if_neg (by rw [beq_iff_eq]; exact c4)]
    exact k _ hs.drop
   rw [if_pos (by rw [beq_iff_eq]; exact c4)]
   by_cases c5 : 0 < n
   case neg =>
    rw [if_neg (fun y => c5 y.2)] at k
    rw [ltI_eq, if_neg (by simpa using c5)]
    exact k _ hs.drop
   rw [if_pos ⟨c4, c5⟩] at k
   rw [ltI_eq, if_pos (by simpa using c5)]
   obtain ⟨s1, s2⟩ := hslot c4
   refine ⟨_, Sat.ld hs (by repeat constructor) (by rfl), ?_⟩
   refine ⟨_, Sat.ld hs (by repeat constructor) (by rfl), ?_⟩
   refine ⟨by omega, by omega, _, by rw [Nat.mul_one]; exact hs.ld m2 (inf_num hl (by omega)), ?_⟩
   refine ⟨_, Sat.ld hs (by repeat constructor) (by rfl), ?_⟩
   refine ⟨by omega, by omega, by rw [Nat.mul_one]; exact hs.can m2 (by rw [inf_len hl]; omega), ?_⟩
   intro h3 e
   rw [Nat.mul_one] at e
   replace hs := hs.wr m2 e
   rw [inf_sn hl (by omega)] at hs
   refine k _ ?_
   have := hs
   simp only [put_succ, put_put] at this
   exact this.drop
  refine ⟨_, Sat.ld hs (by repeat constructor) (by rfl), ?_⟩
  by_cases c2 : kind = 1
  ·rw [if_pos (by rw [beq_iff_eq]; exact c2)]
   exact two _ (by rw [beq_iff_eq]; exact ⟨fun y => ⟨c2, y⟩, fun y => y.2⟩)
  ·rw [if_neg (by rw [beq_iff_eq]; exact c2)]
   exact two _ ⟨fun y => by simp at y, fun y => absurd y.1 c2⟩
 refine ⟨_, Sat.ld hs (by repeat constructor) (by rfl), ?_⟩
 by_cases c0 : kind = 0
 ·rw [if_neg (by simpa using c0)]
  have e : nextM I n kind = I := if_neg (by simpa using c0)
  rw [e] at k
  exact main I hl k _ (by rw [m.put_self]; exact hs)
 ·rw [if_pos (by simpa using c0)]
  have e : nextM I n kind = { I with next := IntKind.i64.wrap (n + 1) } := if_pos (by simpa using c0)
  rw [e] at k
  refine ⟨hs.can m.s (by rw [inf_len hl]; decide), ?_⟩
  intro h3 e
  replace hs := hs.wr m.s e
  rw [inf_s10 hl, put_succ] at hs
  exact main { I with next := IntKind.i64.wrap (n + 1) } hl k _ hs
theorem hsv_cell {q : Option Addr} {l k : Nat} {row : List Int} (rd : hsv h q 32 l (ints .u8 row)) (hk : k < l) : ∃ q', q = some q' /\ (k + 1) * 32 ≤ row.length /\ hrow h (q'.add (k * 32)) .u8 (cellAt row k) := by
 obtain ⟨e1, e2, e3⟩ := rd
 have hl : row.length = l * 32 := by simpa using e1
 have hk2 : (k + 1) * 32 ≤ row.length := by omega
 rcases e3 with e3 | ⟨q', hq, g⟩
 ·have : row.length = 0 := by have := congrArg List.length e3; simpa using this
  omega
 ·refine ⟨q', hq, hk2, ?_⟩
  intro i v hv
  have hi : i < 32 := by
   have := (List.getElem?_eq_some_iff.1 hv).1
   rw [ints_length, cellAt_length hk2] at this; exact this
  rw [ints_get, cellAt_get _ _ _ hi] at hv
  have : (q'.add (k * 32)).add i = q'.add (k * 32 + i) := by
   cases q' with | mk b o s => unfold Addr.add; by_cases h1 : k * 32 = 0 <;> by_cases h2 : i = 0 <;> simp [h1, h2, Nat.add_assoc]
  rw [this]
  exact g _ _ (by rw [ints_get]; exact hv)
def ofM (row : List Int) : Nat -> Inf
 | 0 => inf0
 | n + 1 => layM (ofM row n) n (recM (cellAt row n)).1 (recM (cellAt row n)).2.1 (recM (cellAt row n)).2.2
theorem ofM_len (row : List Int) (n : Nat) : (ofM row n).nums.length = 9 := by
 induction n with
 | zero => rfl
 | succ n ih => unfold ofM; rw [layM_len, ih]
theorem layN_next (I : Inf) (n kind slot num : Int) : (layN I n kind slot num).next = I.next := by
 unfold layN; (repeat' split) <;> rfl
theorem ofM_blank (row : List Int) (n : Nat) (hn : n < 2 ^ 60) : ((ofM row n).next = 0 -> ofM row n = inf0) /\ (ofM row n).blank = false := by
 induction n with
 | zero => exact ⟨fun _ => rfl, rfl⟩
 | succ n ih =>
  obtain ⟨i1, i2⟩ := ih (by omega)
  unfold ofM layM
  generalize (recM (cellAt row n)).1 = kind
  generalize (recM (cellAt row n)).2.1 = slot
  generalize (recM (cellAt row n)).2.2 = num
  by_cases c : kind = 0
  ·have e : nextM (ofM row n) n kind = ofM row n := if_neg (by simpa using c)
   rw [e, layN_next]
   have e2 : layN (ofM row n) n kind slot num = ofM row n := by
    unfold layN; rw [if_neg (by omega), if_neg (by omega), if_neg (by omega)]
   rw [e2]
   exact ⟨i1, i2⟩
  ·have e : nextM (ofM row n) n kind = { ofM row n with next := IntKind.i64.wrap (n + 1) } := if_pos (by simpa using c)
   rw [e, layN_next]
   refine ⟨fun x => ?_, ?_⟩
   ·dsimp only at x
    rw [wrap_id (by omega)] at x; omega
   ·unfold layN; (repeat' split) <;> exact i2
theorem recM_slot (x : List Int) (hb : bytesOk x) (h : (recM x).1 = 2) : 0 ≤ (recM x).2.1 /\ (recM x).2.1 ≤ 8 := by
 unfold recM at *
 split
 ·rename_i c; rw [if_pos c] at h; simp at h
 ·rename_i c; rw [if_neg c] at h
  split
  ·rename_i c; rw [if_pos c] at h; simp at h
  ·rename_i c; rw [if_neg c] at h
   split
   ·rename_i c; rw [if_pos c] at h; simp at h
   ·rename_i c; rw [if_neg c] at h
    split
    ·rename_i c; rw [if_pos c] at h; simp at h
    ·rename_i c; rw [if_neg c] at h
     split
     ·rename_i c
      refine ⟨?_, c.2.1⟩
      show 0 ≤ x.getD 1 0
      rw [List.getD_eq_getElem?_getD]
      cases e : x[1]? with
      | none => exact Int.le_refl _
      | some v => exact (hb v (List.mem_iff_getElem?.2 ⟨1, e⟩)).1
     ·rename_i c; rw [if_neg c] at h; simp at h
def pageI (row : List Int) (n : Nat) : Inf := { ofM row n with blank := decide ((ofM row n).next = 0) }
def lookM (C : Cm) (page : Int) : Inf × Int :=
 if askedM C page C.s.pages.length ≠ 0 then (inf0, askedM C page C.s.pages.length) else (pageI (C.s.pages.getD page.toNat []) C.cfg.cells.toNat, 0)
theorem Look_sp {Q : Int -> List Int -> Int -> Bool -> Int -> Int -> H -> Prop} (hs : Sat h0 A h) (ci : At A i (chipE p C)) (page : Int)
  (k : ∀ h', Sat h0 A h' -> Q (lookM C page).1.head (lookM C page).1.nums (lookM C page).1.next (lookM C page).1.blank (lookM C page).1.torn (lookM C page).2 h') : F_page_Look ⟨p, 0, none⟩ page Q h := by
 unfold F_page_Look G_page_Look
 try simp only [add_mk, Nat.zero_add, List.append_nil]
 have ok := chip_ok hs ci
 intro n1 _ hn; replace hs := Sat.new hs hn
 intro n2 _ hn; replace hs := Sat.new hs hn
 have z9 : (zeros 9).length = 9 := rfl
 refine Erases_sp hs ci.s.s page ?_
 unfold lookM at k
 by_cases e : askedM C page C.s.pages.length = 0
 case neg =>
  have ee : erasesM C page = (0, askedM C page C.s.pages.length) := by unfold erasesM; rw [if_pos (by simpa using e)]
  rw [ee, if_pos (by simpa using e)]
  rw [if_pos (by simpa using e)] at k
  refine ⟨_, Sat.ld hs (by repeat constructor) rfl, _, z9, Sat.row hs (by repeat constructor) (inf_row z9), _, Sat.ld hs (by repeat constructor) (inf_10 z9), _, Sat.ld hs (by repeat constructor) (inf_11 z9), _, Sat.ld hs (by repeat constructor) (inf_12 z9), ?_⟩
  (refine ⟨Sat.can hs (by repeat constructor) (by decide), ?_⟩; intro _ e; replace hs := Sat.wra hs (by repeat constructor) e ((inf_len z9).trans rfl); clear e; simp only [put] at hs)
  refine ⟨_, Sat.ld hs (by repeat constructor) rfl, _, z9, Sat.row hs (by repeat constructor) (inf_row z9), _, Sat.ld hs (by repeat constructor) (inf_10 z9), _, Sat.ld hs (by repeat constructor) (inf_11 z9), _, Sat.ld hs (by repeat constructor) (inf_12 z9), ?_⟩
  exact k _ hs.drop.drop
 have ee : erasesM C page = (C.s.erases.getD page.toNat 0, 0) := by unfold erasesM; rw [if_neg (by simpa using e)]
 rw [ee, if_neg (by simp)]
 rw [if_neg (by simpa using e)] at k
 obtain ⟨ho, p1, p2⟩ := askedM_zero e
 refine Config_sp hs ci.s.s ?_
 intro h1 hs
 have hcells := ok.may.cells
 have hj : page.toNat < C.s.pages.length := by omega
 have erow : C.s.pages.getD page.toNat [] = C.s.pages[page.toNat] := by simp [List.getD, List.getElem?_eq_getElem hj]
 have hrl := ok.fits.cells _ (List.getElem_mem hj)
 have hrb := ok.typed.bytes _ (List.getElem_mem hj)
 rw [erow] at k
 generalize hrow : C.s.pages[page.toNat] = row at *
 have eread : ∀ n : Nat, n < C.cfg.cells.toNat -> readM C page n = (cellAt row n, 0) := by
  intro n hn
  have ec : asksCellM C page n = 0 := by
   unfold asksCellM
   rw [askedM_in ho p1 p2, if_neg (by simp), askedM_in ho (by omega) (by omega)]
  unfold readM
  rw [ec, if_neg (by simp), erow, Int.toNat_natCast]
 intro J hJ
 refine loop_up C.cfg.cells.toNat (fun n h => Sat h0 (blk n2 (infI (ofM row n)) :: blk n1 (infI inf0) :: A) h) ?_ ?_ 0 _ (by omega) hs
 ·intro n h2 hn hs hk
  apply hJ
  rw [ltI_eq, if_pos (by simp; omega)]
  refine Read_sp hs ci.s.s page n ?_
  intro h3 hs
  rw [eread n hn]
  have hcl : (cellAt row n).length = 32 := cellAt_length (by omega)
  have hcb : bytesOk (cellAt row n) := fun v hv => hrb v (cellAt_mem hv)
  have hnl := ofM_len row n
  have hslot := recM_slot (cellAt row n) hcb
  intro n3 _ hn3; replace hs := Sat.new hs hn3; clear hn3
  refine ⟨Sat.can hs (by repeat constructor) (by simp [hcl]), ?_⟩
  intro _ e; replace hs := Sat.wra hs (by repeat constructor) e (by rw [ints_length, ints_length, hcl]; rfl); clear e; simp only [put] at hs
  rw [if_neg (by simp)]
  refine ⟨_, hcl, hs.row0 .z, ?_⟩
  refine Read3_sp _ hcl hcb hs ?_
  intro h4 hs
  refine lay_sp (i := 1) (ofM row n) hnl hs zs1 n _ _ _ hslot ?_
  intro h5 hs
  rw [wrap_succ (by omega)]
  exact hk _ hs.drop
 ·intro h2 hs
  apply hJ
  rw [ltI_eq, if_neg (by simp; omega)]
  have hnl := ofM_len row C.cfg.cells.toNat
  have hbl := ofM_blank row C.cfg.cells.toNat (by omega)
  generalize hO : ofM row C.cfg.cells.toNat = O at *
  refine ⟨_, Sat.ld hs (by repeat constructor) rfl, _, hnl, Sat.row hs (by repeat constructor) (inf_row hnl), _, Sat.ld hs (by repeat constructor) (inf_10 hnl), _, Sat.ld hs (by repeat constructor) (inf_11 hnl), _, Sat.ld hs (by repeat constructor) (inf_12 hnl), ?_⟩
  have ebl : (O.head == 0 && (O.nums == zeros 9 && (O.next == 0 && (O.blank == false && (O.torn == 0 && true))))) = decide (O.next = 0) := by
   by_cases c : O.next = 0
   ·rw [hbl.1 c]; decide
   ·rw [decide_eq_false c]
    have : (O.next == 0) = false := by simpa using c
    rw [this]; simp
  rw [ebl]
  refine ⟨hs.can .z (by rw [inf_len hnl]; decide), ?_⟩
  intro h3 e
  replace hs := hs.wr .z e
  rw [inf_s11 hnl, put_zero] at hs
  refine ⟨_, Sat.ld hs (by repeat constructor) rfl, _, hnl, Sat.row hs (by repeat constructor) (inf_row hnl), _, Sat.ld hs (by repeat constructor) (inf_10 hnl), _, Sat.ld hs (by repeat constructor) (inf_11 hnl), _, Sat.ld hs (by repeat constructor) (inf_12 hnl), ?_⟩
  (refine ⟨Sat.can hs (by repeat constructor) (by decide), ?_⟩; intro _ e; replace hs := Sat.wra hs (by repeat constructor) e ((inf_len hnl).trans rfl); clear e; simp only [put] at hs)
  refine ⟨_, Sat.ld hs (by repeat constructor) rfl, _, hnl, Sat.row hs (by repeat constructor) (inf_row hnl), _, Sat.ld hs (by repeat constructor) (inf_10 hnl), _, Sat.ld hs (by repeat constructor) (inf_11 hnl), _, Sat.ld hs (by repeat constructor) (inf_12 hnl), ?_⟩
  unfold pageI at k
  rw [hO] at k
  exact k _ hs.drop.drop
end
end Go.Proofs.YteedolonhdbieaaGreatDoor
/- Contracts of the document's pages; PageLooks. Own work. -/
set_option maxRecDepth 100000
namespace Go.Proofs.YteedolonhdbieaaGreatDoor
open Go Go.Vc
section
variable {h0 h : H} {A : List Ent} {i j p r b : Nat} {C : Cm}
theorem Of_sp {Q : Int -> List Int -> Int -> Bool -> Int -> H -> Prop} {q : Option Addr} {l c : Nat} {row : List Int} (hs : Sat h0 A h) (rd : ∀ h', Sat h0 A h' -> hsv h' q 32 l (ints .u8 row)) (hb : bytesOk row) (hl : l < 2 ^ 60)
  (k : ∀ h', Sat h0 A h' -> Q (pageI row l).head (pageI row l).nums (pageI row l).next (pageI row l).blank (pageI row l).torn h') : F_portcullisref08_Of q l c Q h := by
 unfold F_portcullisref08_Of G_portcullisref08_Of
 try simp only [add_mk, Nat.zero_add, List.append_nil]
 intro n6 _ hn; replace hs := Sat.new hs hn
 intro n9 _ hn; replace hs := Sat.new hs hn
 have z9 : (zeros 9).length = 9 := rfl
 (refine ⟨Sat.can hs (by repeat constructor) (by decide), ?_⟩; intro _ e; replace hs := Sat.wra hs (by repeat constructor) e ((inf_len z9).trans rfl); clear e; simp only [put] at hs)
 intro J hJ
 refine loop_up l (fun n h => Sat h0 (blk n9 (infI (ofM row n)) :: blk n6 (infI inf0) :: A) h) ?_ ?_ 0 _ (by omega) hs
 ·intro n h1 hn hs hk
  apply hJ
  rw [ltI_eq, if_pos (by simp; omega)]
  obtain ⟨q', hq, hk2, hr⟩ := hsv_cell (rd _ hs.drop.drop) hn
  have hcl : (cellAt row n).length = 32 := cellAt_length hk2
  have hcb : bytesOk (cellAt row n) := fun v hv => hb v (cellAt_mem hv)
  have hnl := ofM_len row n
  have hslot := recM_slot (cellAt row n) hcb
  refine ⟨_, hq, by omega, by omega, _, hcl, by rw [Int.toNat_natCast]; exact hr, ?_⟩
  refine rRead6_sp _ hcl hcb hs ?_
  intro h2 hs
  replace hk : ∀ h', Sat h0 (blk n9 (infI (layM (ofM row n) n (recM (cellAt row n)).1 (recM (cellAt row n)).2.1 (recM (cellAt row n)).2.2)) :: blk n6 (infI inf0) :: A) h' -> J [si (n + 1)] h' := hk
  generalize (recM (cellAt row n)).1 = kind at *
  generalize (recM (cellAt row n)).2.1 = slot at *
  generalize (recM (cellAt row n)).2.2 = num at *
  generalize ofM row n = I at *
  rw [wrap_succ (by omega)]
  intro n23 _ hn23; replace hs := Sat.new hs hn23; clear hn23
  (refine ⟨Sat.can hs (by repeat constructor) (by simp), ?_⟩; intro _ e; replace hs := Sat.wr hs (by repeat constructor) e; clear e; simp only [put, splice, List.set] at hs)
  intro J2 hJ2
  have main : ∀ (I : Inf), I.nums.length = 9 -> (∀ h', Sat h0 (blk n9 (infI (layN I n kind slot num)) :: blk n6 (infI inf0) :: A) h' -> J [si (n + 1)] h') ->
    ∀ h2, Sat h0 (blk n23 [.int .i64 kind, .int .i64 slot, .int .i64 num] :: blk n9 (infI I) :: blk n6 (infI inf0) :: A) h2 -> J2 [] h2 := by
   intro I hl k h2 hs
   unfold layN at k
   apply hJ2
   refine ⟨_, Sat.ld hs (by repeat constructor) (by rfl), ?_⟩
   by_cases c1 : kind = 3
   ·rw [if_pos c1] at k
    rw [if_pos (by simpa using c1)]
    refine ⟨_, hs.ld zs1 (inf_12 hl), hs.can zs1 (by rw [inf_len hl]; decide), ?_⟩
    intro h3 e
    replace hs := hs.wr zs1 e
    rw [inf_s12 hl] at hs
    exact k _ hs.drop
   rw [if_neg c1] at k
   rw [if_neg (by simpa using c1)]
   intro J3 hJ3
   have two : ∀ bb : Bool, (bb = true ↔ kind = 1 /\ (n : Int) = 0) -> J3 [.dv (.one (.bool bb))] h2 := by
    intro bb c2
    apply hJ3
    by_cases c3 : bb = true
    ·rw [if_pos c3]
     rw [if_pos (c2.1 c3)] at k
     refine ⟨_, Sat.ld hs (by repeat constructor) (by rfl), ?_⟩
     refine ⟨hs.can zs1 (by rw [inf_len hl]; decide), ?_⟩
     intro h3 e
     replace hs := hs.wr zs1 e
     rw [inf_s0] at hs
     exact k _ hs.drop
    rw [if_neg c3]
    rw [if_neg (fun y => c3 (c2.2 y))] at k
    intro J4 hJ4
    have three : ∀ bb : Bool, (bb = true ↔ kind = 2 /\ 0 < (n : Int)) -> J4 [.dv (.one (.bool bb))] h2 := by
     intro bb c4
     apply hJ4
     by_cases c5 : bb = true
     ·rw [if_pos c5]
      rw [if_pos (c4.1 c5)] at k
      obtain ⟨s1, s2⟩ := hslot (c4.1 c5).1
      refine ⟨_, Sat.ld hs (by repeat constructor) (by rfl), ?_⟩
      refine ⟨_, Sat.ld hs (by repeat constructor) (by rfl), ?_⟩
      refine ⟨by omega, by omega, _, by rw [Nat.mul_one]; exact hs.ld zs1 (inf_num hl (by omega)), ?_⟩
      refine ⟨_, Sat.ld hs (by repeat constructor) (by rfl), ?_⟩
      refine ⟨by omega, by omega, by rw [Nat.mul_one]; exact hs.can zs1 (by rw [inf_len hl]; omega), ?_⟩
      intro h3 e
      rw [Nat.mul_one] at e
      replace hs := hs.wr zs1 e
      rw [inf_sn hl (by omega)] at hs
      exact k _ hs.drop
     ·rw [if_neg c5]
      rw [if_neg (fun y => c5 (c4.2 y))] at k
      exact k _ hs.drop
    refine ⟨_, Sat.ld hs (by repeat constructor) (by rfl), ?_⟩
    by_cases c4 : kind = 2
    case neg =>
     rw [if_neg (by rw [beq_iff_eq]; exact c4)]
     exact three _ ⟨fun y => by simp at y, fun y => absurd y.1 c4⟩
    rw [if_pos (by rw [beq_iff_eq]; exact c4)]
    by_cases c5 : 0 < (n : Int)
    case neg =>
     rw [ltI_eq, if_neg (by rw [decide_eq_true_eq]; exact c5)]
     exact three _ ⟨fun y => by simp at y, fun y => absurd y.2 c5⟩
    rw [ltI_eq, if_pos (by rw [decide_eq_true_eq]; exact c5)]
    obtain ⟨s1, s2⟩ := hslot c4
    refine ⟨_, Sat.ld hs (by repeat constructor) (by rfl), ?_⟩
    rw [leI_eq, if_pos (by rw [decide_eq_true_eq]; exact s1)]
    refine ⟨_, Sat.ld hs (by repeat constructor) (by rfl), ?_⟩
    rw [leI_eq]
    exact three _ ⟨fun y => ⟨c4, c5⟩, fun y => by rw [decide_eq_true_eq]; exact s2⟩
   refine ⟨_, Sat.ld hs (by repeat constructor) (by rfl), ?_⟩
   by_cases c2 : kind = 1
   ·rw [if_pos (by rw [beq_iff_eq]; exact c2)]
    exact two _ (by rw [beq_iff_eq]; exact ⟨fun y => ⟨c2, y⟩, fun y => y.2⟩)
   ·rw [if_neg (by rw [beq_iff_eq]; exact c2)]
    exact two _ ⟨fun y => by simp at y, fun y => absurd y.1 c2⟩
  unfold layM at hk
  refine ⟨_, Sat.ld hs (by repeat constructor) (by rfl), ?_⟩
  by_cases c0 : kind = 0
  ·rw [if_neg (by simpa using c0)]
   have e : nextM I n kind = I := if_neg (by simpa using c0)
   rw [e] at hk
   exact main I hnl hk _ hs
  ·rw [if_pos (by simpa using c0)]
   have e : nextM I n kind = { I with next := IntKind.i64.wrap (n + 1) } := if_pos (by simpa using c0)
   rw [e] at hk
   refine ⟨hs.can zs1 (by rw [inf_len hnl]; decide), ?_⟩
   intro h3 e
   replace hs := hs.wr zs1 e
   rw [wrap_succ (by omega)] at hk
   rw [inf_s10 hnl] at hs
   exact main { I with next := ((n + 1 : Nat) : Int) } hnl hk _ hs
 ·intro h1 hs
  apply hJ
  rw [ltI_eq, if_neg (by simp)]
  have hnl := ofM_len row l
  unfold pageI at k
  generalize hO : ofM row l = O at *
  refine ⟨_, hs.ld .z (inf_10 hnl), ?_⟩
  have ebl : (O.next == 0) = decide (O.next = 0) := by
   by_cases c : O.next = 0
   ·rw [c]; decide
   ·rw [decide_eq_false c]; simpa using c
  rw [ebl]
  refine ⟨hs.can .z (by rw [inf_len hnl]; decide), ?_⟩
  intro h3 e
  replace hs := hs.wr .z e
  rw [inf_s11 hnl, put_zero] at hs
  refine ⟨_, Sat.ld hs (by repeat constructor) rfl, _, hnl, Sat.row hs (by repeat constructor) (inf_row hnl), _, Sat.ld hs (by repeat constructor) (inf_10 hnl), _, Sat.ld hs (by repeat constructor) (inf_11 hnl), _, Sat.ld hs (by repeat constructor) (inf_12 hnl), ?_⟩
  (refine ⟨Sat.can hs (by repeat constructor) (by decide), ?_⟩; intro _ e; replace hs := Sat.wra hs (by repeat constructor) e ((inf_len hnl).trans rfl); clear e; simp only [put] at hs)
  refine ⟨_, Sat.ld hs (by repeat constructor) rfl, _, hnl, Sat.row hs (by repeat constructor) (inf_row hnl), _, Sat.ld hs (by repeat constructor) (inf_10 hnl), _, Sat.ld hs (by repeat constructor) (inf_11 hnl), _, Sat.ld hs (by repeat constructor) (inf_12 hnl), ?_⟩
  exact k _ hs.drop.drop
theorem ref_pg (hs : Sat h0 A h) (cj : At A j (refE r C)) : ∃ w : Pl, C.ok /\ (∀ o v, (C.cells w.a w.b w.c w.m)[o]? = some v -> hc h ⟨r, o, none⟩ = some v) /\ RdM h 32 w.a C.s.pages := by
 obtain ⟨⟨w, ms⟩, ⟨ok, _, _, _⟩, hs⟩ := (hs.front cj).open_
 dsimp only [refL, List.cons_append, List.nil_append] at hs
 exact ⟨w, ok, fun o v e => hs.ld .z e, hs.rdM zs1⟩
end
end Go.Proofs.YteedolonhdbieaaGreatDoor
end
section
namespace Go.Proofs.YteedolonhdbieaaGreatDoor
open Go Go.Vc
set_option maxRecDepth 100000
section
variable {h0 h : H} {A : List Ent} {i j p r b : Nat} {C : Cm}
theorem lookM_len (C : Cm) (page : Int) : (lookM C page).1.nums.length = 9 := by
 unfold lookM
 split
 ·rfl
 ·exact ofM_len _ _
end
def sub8 (a b : Int) : Prop := bits .or .u8 a b = b
theorem tab_getD {n : Nat} (f : Nat -> Int) {k : Nat} (h : k < n) : (tab n f).getD k 0 = f k := by rw [List.getD_eq_getElem?_getD, tab_get, if_pos h]; rfl
def soundM (row : List Int) (l : Nat) : Prop := ∀ i, i < l -> ∀ k, k < 16 -> bits .or .u8 (row.getD (i * 32 + k) 0) (row.getD (i * 32 + (16 + k)) 0) = 255
instance (row : List Int) (l : Nat) : Decidable (soundM row l) := by unfold soundM; infer_instance
theorem ext_getD {x y : List Int} (h : x.length = y.length) (e : ∀ i, i < x.length -> x.getD i 0 = y.getD i 0) : x = y := by
 apply List.ext_getElem h
 intro i h1 h2
 have := e i h1
 rw [List.getD_eq_getElem?_getD, List.getD_eq_getElem?_getD, List.getElem?_eq_getElem h1, List.getElem?_eq_getElem h2] at this
 exact this
theorem cellAt_getD (row : List Int) (k i : Nat) (hi : i < 32) : (cellAt row k).getD i 0 = row.getD (k * 32 + i) 0 := by
 rw [List.getD_eq_getElem?_getD, cellAt_get row k i hi, List.getD_eq_getElem?_getD]
theorem mapTo_getD (g : Nat -> Int -> Int) (n : Nat) (ns : List Int) (j : Nat) (hj : j < ns.length) (hn : j < n) : (mapTo g n ns).getD j 0 = g j (ns.getD j 0) := by
 rw [List.getD_eq_getElem?_getD, mapTo_get, List.getElem?_eq_getElem hj]
 simp [hn, List.getD, List.getElem?_eq_getElem hj]
section
variable {h0 h : H} {A : List Ent} {i j p r b : Nat} {C : Cm}
end
structure Half (c : Cfg) (s : St) (pg : Nat) (row : List Int) (l : Nat) (D E : Cm) : Prop where
 dc : D.cfg = c
 ec : E.cfg = c
 eo : E.out = false
 dp : D.s.pages.length = s.pages.length
 ep : E.s.pages.length = s.pages.length
 ds : soundM (D.s.pages.getD pg []) l
 z : ∃ z, (z = row ∨ z = E.s.pages.getD pg []) /\ (∀ k, k < l -> bytesOk (cellAt z k)) /\
  ∀ k, k < l -> (recM (cellAt (D.s.pages.getD pg []) k)).1 = 0 ∨ (recM (cellAt (D.s.pages.getD pg []) k)).1 = 3 ∨ recM (cellAt (D.s.pages.getD pg []) k) = recM (cellAt z k)
section
variable {c : Cfg} {s : St} {C0 : Cm} {pg : Int} {row : List Int} {l : Nat}
end
section
variable {h0 h : H} {A : List Ent} {i j p r b : Nat} {C : Cm}
end
section
variable {h0 h : H} {A : List Ent} {i j p r b : Nat} {C : Cm}
def usedP (C : Cm) (page : Int) (l : Nat) : Prop := ∃ n, n < l /\ (readM C page n).2 = 0 /\ (readM C page n).1 ≠ ffs
instance (C : Cm) (page : Int) (l : Nat) : Decidable (usedP C page l) := by unfold usedP; infer_instance
def usedM (C : Cm) (page : Int) : Bool := decide (usedP C page C.cfg.cells.toNat)
def wornP (C : Cm) (ar : Int) (l : Nat) : Prop := ∃ n : Nat, n < l /\ (erasesM C (2 + ar * C.cfg.area + n)).2 = 0 /\ C.cfg.erases ≤ (erasesM C (2 + ar * C.cfg.area + n)).1 /\ usedM C (2 + ar * C.cfg.area + n) = true
instance (C : Cm) (ar : Int) (l : Nat) : Decidable (wornP C ar l) := by unfold wornP; infer_instance
end
def blankP (row : List Int) (l : Nat) : Prop := ∀ n, n < l -> cellAt row n = ffs
instance (row : List Int) (l : Nat) : Decidable (blankP row l) := by unfold blankP; infer_instance
section
variable {h0 h : H} {A : List Ent} {i j p r b : Nat} {C : Cm}
end
def cellM (bs : List Int) (n : Nat) : List Int := tab 32 fun k => if n * 32 + k < bs.length then bs.getD (n * 32 + k) 0 else 255
section
variable {h0 h : H} {A : List Ent} {i j p r b : Nat} {C : Cm}
theorem add_add (q : Addr) (a b : Nat) : (q.add a).add b = q.add (a + b) := by
 cases q with | mk b' o s => unfold Addr.add; by_cases h1 : a = 0 <;> by_cases h2 : b = 0 <;> simp [h1, h2, Nat.add_assoc]
def eraseL (base : Int) : Nat -> Nat -> Cm -> Cm × Int
 | 0, _, C => (C, 0)
 | m + 1, j, C => if usedM C (base + j) = true then (if (eraseM C (base + j)).2 ≠ 0 then eraseM C (base + j) else eraseL base m (j + 1) (eraseM C (base + j)).1) else eraseL base m (j + 1) C
theorem erase_cfg (C : Cm) (page : Int) : (eraseM C page).1.cfg = C.cfg := by
 unfold eraseM
 split
 ·rfl
 ·split
  ·rfl
  ·exact act_cfg C
theorem program_cfg (C : Cm) (page cell : Int) (x : List Int) : (programM C page cell x).1.cfg = C.cfg := by
 unfold programM
 split
 ·rfl
 ·exact act_cfg C
end
section
variable {h0 h : H} {A : List Ent} {i j p r b : Nat} {C : Cm}
theorem sl_cap (hs : Sat h0 A h) {q : Option Addr} {l c sz : Nat} {vs : List Value} (m : At A i (slE q l c sz vs)) : l ≤ c := by
 obtain ⟨f, hp, _⟩ := hs.take m
 obtain ⟨bs, ⟨_, h2, _⟩, _⟩ := slE_P.1 hp
 exact h2
end
def Cm.er (C : Cm) (x : Nat) : Int := C.s.erases.getD x 0
def Cm.pg (C : Cm) (x : Nat) : List Int := C.s.pages.getD x []
def dif (C D : Cm) : Nat -> Nat -> Int
 | _, 0 => 0
 | B, m + 1 => (D.er B - C.er B) + dif C D (B + 1) m
theorem dif_succ (C D : Cm) (B m : Nat) : dif C D B (m + 1) = (D.er B - C.er B) + dif C D (B + 1) m := rfl
theorem dif_congr {C C' D : Cm} (m : Nat) : ∀ B, (∀ x, B ≤ x -> x < B + m -> C.er x = C'.er x) -> dif C D B m = dif C' D B m := by
 induction m with
 | zero => intro B _; rfl
 | succ m ih =>
  intro B h
  unfold dif
  rw [h B (by omega) (by omega), ih (B + 1) fun x h1 h2 => h x (by omega) (by omega)]
theorem dif_zero {C D : Cm} (m : Nat) : ∀ B, (∀ x, B ≤ x -> x < B + m -> D.er x = C.er x) -> dif C D B m = 0 := by
 induction m with
 | zero => intro B _; rfl
 | succ m ih =>
  intro B h
  unfold dif
  rw [h B (by omega) (by omega), ih (B + 1) fun x h1 h2 => h x (by omega) (by omega)]; omega
theorem usedM_congr {C D : Cm} {page : Int} (hc : D.cfg = C.cfg) (ho : D.out = C.out) (hl : D.s.pages.length = C.s.pages.length) (hp : D.pg page.toNat = C.pg page.toNat) : usedM D page = usedM C page := by
 have e : ∀ n : Int, readM D page n = readM C page n := by
  intro n
  unfold readM asksCellM askedM
  unfold Cm.pg at hp
  rw [hc, ho, hl, hp]
 unfold usedM usedP
 rw [hc]
 simp only [e]
structure Er (B m : Nat) (C D : Cm) (e : Int) : Prop where
 cfg : D.cfg = C.cfg
 bl : D.s.blown = C.s.blown
 np : D.s.pages.length = C.s.pages.length
 ne : D.s.erases.length = C.s.erases.length
 pg : ∀ x, x < B ∨ B + m ≤ x -> D.pg x = C.pg x
 er : ∀ x, x < B ∨ B + m ≤ x -> D.er x = C.er x
 acts : D.acts = C.acts + dif C D B m
 ab : C.acts ≤ D.acts /\ D.acts ≤ C.acts + m
 good : e = 0 -> D.out = false /\ -1 ≤ D.left /\ ∀ x, B ≤ x -> x < B + m -> (D.pg x).length = C.cfg.cells.toNat * 32 /\ blankP (D.pg x) C.cfg.cells.toNat
 bad : e ≠ 0 -> e = 8
theorem erased_blank {row : List Int} {l : Nat} (hl : row.length = l * 32) (f : Nat -> Int) (hf : ∀ i, f i = 255) : (eraseRow row f).length = l * 32 /\ blankP (eraseRow row f) l := by
 refine ⟨by unfold eraseRow; rw [mapTo_length]; exact hl, ?_⟩
 intro n hn
 have h1 : (cellAt (eraseRow row f) n).length = 32 := cellAt_length (by unfold eraseRow; rw [mapTo_length]; omega)
 refine ext_getD (h1.trans rfl) fun i hi => ?_
 rw [h1] at hi
 rw [cellAt_getD _ _ _ hi]
 unfold eraseRow
 rw [mapTo_getD _ _ _ _ (by omega) (by omega), hf, full_or]
 unfold ffs
 rw [tab_getD _ hi]
theorem getD_put {α : Type} (l : List α) (j : Nat) (v d : α) (h : j < l.length) : (l.set j v).getD j d = v := by
 simp [List.getD, h]
theorem erase_step {C : Cm} {B : Nat} (ho : C.out = false) (hB : B < C.s.pages.length) (hB2 : B < C.s.erases.length) (hw : C.er B < C.cfg.erases) (ha : 0 ≤ C.acts /\ C.acts < 2 ^ 60) :
  ∃ D : Cm, eraseM C (B : Int) = (D, errM C) /\ D.cfg = C.cfg /\ D.s.blown = C.s.blown /\ D.s.pages.length = C.s.pages.length /\ D.s.erases.length = C.s.erases.length /\ (∀ x, x ≠ B -> D.pg x = C.pg x) /\ (∀ x, x ≠ B -> D.er x = C.er x) /\
   D.er B = C.er B + 1 /\ D.acts = C.acts + 1 /\ D.pg B = eraseRow (C.pg B) (maskAt C) /\ (C.left ≠ 0 -> D.out = false) /\ (-1 ≤ C.left -> -1 ≤ D.left) := by
 have hac : C.act.acts = C.acts + 1 := by
  unfold Cm.act
  have : w64 (C.acts + 1) = C.acts + 1 := by unfold w64; rw [IntKind.wrap_i64]; omega
  split <;> exact this
 unfold eraseM
 rw [askedM_in ho (by omega) (by omega), if_neg (by simp), Int.toNat_natCast]
 unfold Cm.er at hw
 rw [if_neg (by omega)]
 refine ⟨_, rfl, act_cfg C, ?_, ?_, ?_, ?_, ?_, ?_, hac, ?_, ?_, ?_⟩
 ·show C.act.s.blown = _; rw [act_s]
 ·show (C.act.s.pages.set B _).length = _; rw [List.length_set, act_s]
 ·show (C.act.s.erases.set B _).length = _; rw [List.length_set, act_s]
 ·intro x hx
  show (C.act.s.pages.set B _).getD x [] = C.s.pages.getD x []
  simp only [List.getD, List.getElem?_set_ne (Ne.symm hx), act_s]
 ·intro x hx
  show (C.act.s.erases.set B _).getD x 0 = C.s.erases.getD x 0
  simp only [List.getD, List.getElem?_set_ne (Ne.symm hx), act_s]
 ·show (C.act.s.erases.set B _).getD B 0 = _
  exact getD_put _ _ _ _ (by rw [act_s]; exact hB2)
 ·show (C.act.s.pages.set B _).getD B [] = _
  rw [getD_put _ _ _ _ (by rw [act_s]; exact hB)]
  unfold rowOf
  rw [Int.toNat_natCast]; rfl
 ·intro hl
  show C.act.out = false
  exact act_out ho hl
 ·intro hl
  show -1 ≤ C.act.left
  unfold Cm.act
  split
  ·dsimp only; split <;> omega
  ·exact Int.le_refl _
theorem erases (base : Int) : ∀ (m j B : Nat) (C : Cm), base + j = (B : Int) -> C.out = false -> -1 ≤ C.left -> B + m ≤ C.s.pages.length -> B + m ≤ C.s.erases.length -> (0 ≤ C.acts /\ C.acts + m < 2 ^ 60) ->
  (∀ x, B ≤ x -> x < B + m -> (C.pg x).length = C.cfg.cells.toNat * 32) -> (∀ x, B ≤ x -> x < B + m -> usedM C (x : Int) = true -> C.er x < C.cfg.erases) ->
  (∀ x, B ≤ x -> x < B + m -> usedM C (x : Int) = false -> blankP (C.pg x) C.cfg.cells.toNat) -> Er B m C (eraseL base m j C).1 (eraseL base m j C).2 := by
 intro m
 induction m with
 | zero =>
  intro j B C hB ho hl _ _ _ _ _ _
  unfold eraseL
  exact ⟨rfl, rfl, rfl, rfl, fun _ _ => rfl, fun _ _ => rfl, by simp [dif], ⟨Int.le_refl _, by (try dsimp only); omega⟩, fun _ => ⟨ho, hl, fun x h1 h2 => by omega⟩, fun x => absurd rfl x⟩
 | succ m ih =>
  intro j B C hB ho hl hp he ha hlen hw hbl
  unfold eraseL
  rw [hB]
  by_cases u : usedM C (B : Int) = true
  case neg =>
   rw [if_neg u]
   have I := ih (j + 1) (B + 1) C (by omega) ho hl (by omega) (by omega) ⟨ha.1, by omega⟩ (fun x h1 h2 => hlen x (by omega) (by omega)) (fun x h1 h2 => hw x (by omega) (by omega)) (fun x h1 h2 => hbl x (by omega) (by omega))
   generalize eraseL base m (j + 1) C = X at *
   have hBp := I.pg B (by omega)
   have hBe := I.er B (by omega)
   refine ⟨I.cfg, I.bl, I.np, I.ne, fun x hx => I.pg x (by omega), fun x hx => I.er x (by omega), ?_, ⟨I.ab.1, by have := I.ab.2; omega⟩, fun e => ?_, I.bad⟩
   ·rw [I.acts, dif_succ, hBe]; omega
   ·obtain ⟨g1, g2, g3⟩ := I.good e
    refine ⟨g1, g2, fun x h1 h2 => ?_⟩
    by_cases c : x = B
    ·subst c
     rw [hBp]
     exact ⟨hlen x (by omega) (by omega), hbl x (by omega) (by omega) (by simpa using u)⟩
    ·exact g3 x (by omega) (by omega)
  rw [if_pos u]
  obtain ⟨D, hD, d1, d2, d3, d4, d5, d6, d7, d8, d9, d10, d11⟩ := erase_step ho (show B < C.s.pages.length by omega) (by omega) (hw B (by omega) (by omega) u) ⟨ha.1, by omega⟩
  rw [hD]
  dsimp only
  by_cases c : C.left = 0
  ·have e8 : errM C = 8 := by unfold errM; rw [if_neg (by simpa using c)]
   rw [e8, if_pos (by simp)]
   refine ⟨d1, d2, d3, d4, fun x hx => d5 x (by omega), fun x hx => d6 x (by omega), ?_, ⟨by (try dsimp only); omega, by (try dsimp only); omega⟩, fun e => by simp at e, fun _ => rfl⟩
   rw [dif_succ, dif_zero m (B + 1) fun x h1 h2 => d6 x (by omega), d7, d8]; omega
  ·have e0 : errM C = 0 := by unfold errM; rw [if_pos (by simpa using c)]
   rw [e0, if_neg (by simp)]
   have hu : ∀ x, B + 1 ≤ x -> usedM D (x : Int) = usedM C (x : Int) := fun x h1 => usedM_congr d1 (by rw [d10 c, ho]) d3 (by rw [Int.toNat_natCast]; exact d5 x (by omega))
   have I := ih (j + 1) (B + 1) D (by omega) (d10 c) (d11 hl) (by omega) (by omega) ⟨by omega, by omega⟩
    (fun x h1 h2 => by rw [d5 x (by omega), d1]; exact hlen x (by omega) (by omega))
    (fun x h1 h2 h3 => by rw [d6 x (by omega), d1]; rw [hu x h1] at h3; exact hw x (by omega) (by omega) h3)
    (fun x h1 h2 h3 => by rw [d5 x (by omega), d1]; rw [hu x h1] at h3; exact hbl x (by omega) (by omega) h3)
   generalize eraseL base m (j + 1) D = X at *
   have hBp := I.pg B (by omega)
   have hBe := I.er B (by omega)
   refine ⟨I.cfg.trans d1, I.bl.trans d2, I.np.trans d3, I.ne.trans d4, fun x hx => (I.pg x (by omega)).trans (d5 x (by omega)), fun x hx => (I.er x (by omega)).trans (d6 x (by omega)), ?_, ⟨by have := I.ab.1; omega, by have := I.ab.2; omega⟩, fun e => ?_, I.bad⟩
   ·rw [I.acts, dif_succ, hBe, d7, d8, dif_congr m (B + 1) fun x h1 h2 => d6 x (by omega)]; omega
   ·obtain ⟨g1, g2, g3⟩ := I.good e
    rw [d1] at g3
    refine ⟨g1, g2, fun x h1 h2 => ?_⟩
    by_cases c2 : x = B
    ·subst c2
     rw [hBp, d9]
     exact erased_blank (hlen x (by omega) (by omega)) _ fun i => by unfold maskAt; rw [if_pos (by simpa using c)]
    ·exact g3 x (by omega) (by omega)
end Go.Proofs.YteedolonhdbieaaGreatDoor
end
