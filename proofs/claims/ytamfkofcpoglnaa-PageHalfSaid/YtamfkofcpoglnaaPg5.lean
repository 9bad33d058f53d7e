/- PageHalf: rows after a cut act; soundness of rows. Own work. -/
import Derived.Test.YtamfkofcpoglnaaFa9
import Derived.Test.YtamfkofcpoglnaaPg4
set_option autoImplicit false
set_option linter.all false
set_option maxRecDepth 100000
set_option linter.unusedVariables false
namespace Go.Proofs.Ytamfkofcpoglnaa
open Go Go.Vc

theorem ext_getD {x y : List Int} (h : x.length = y.length) (e : ∀ i, i < x.length → x.getD i 0 = y.getD i 0) : x = y := by
  apply List.ext_getElem h
  intro i h1 h2
  have := e i h1
  rw [List.getD_eq_getElem?_getD, List.getD_eq_getElem?_getD, List.getElem?_eq_getElem h1, List.getElem?_eq_getElem h2] at this
  exact this
theorem cellAt_getD (row : List Int) (k i : Nat) (hi : i < 32) : (cellAt row k).getD i 0 = row.getD (k * 32 + i) 0 := by
  rw [List.getD_eq_getElem?_getD, cellAt_get row k i hi, List.getD_eq_getElem?_getD]
theorem sound_cells {row : List Int} {l : Nat} : soundM row l ↔ ∀ k, k < l → cellS (cellAt row k) := by
  unfold soundM cellS
  constructor
  · intro h k hk j hj
    rw [cellAt_getD _ _ _ (by omega), cellAt_getD _ _ _ (by omega)]
    exact h k hk j hj
  · intro h k hk j hj
    have := h k hk j hj
    rw [cellAt_getD _ _ _ (by omega), cellAt_getD _ _ _ (by omega)] at this
    exact this
theorem mapTo_getD (g : Nat → Int → Int) (n : Nat) (ns : List Int) (j : Nat) (hj : j < ns.length) (hn : j < n) : (mapTo g n ns).getD j 0 = g j (ns.getD j 0) := by
  rw [List.getD_eq_getElem?_getD, mapTo_get, List.getElem?_eq_getElem hj]
  simp [hn, List.getD, List.getElem?_eq_getElem hj]
theorem half_erase (f : Nat → Int) {row : List Int} {l : Nat} (hlen : row.length = l * 32) (hb : bytesOk row) (hs : soundM row l) :
    soundM (eraseRow row f) l ∧ ∀ k, k < l → (recM (cellAt (eraseRow row f) k)).1 = 0 ∨ (recM (cellAt (eraseRow row f) k)).1 = 3 ∨ recM (cellAt (eraseRow row f) k) = recM (cellAt row k) := by
  have eg : ∀ q, q < row.length → (eraseRow row f).getD q 0 = bits .or .u8 (row.getD q 0) (f q) := fun q hq => mapTo_getD _ _ _ _ hq hq
  refine ⟨?_, ?_⟩
  · intro i hi k hk
    rw [eg _ (by omega), eg _ (by omega)]
    exact sound_or _ _ (hs i hi k hk)
  · intro k hk
    refine rec_sub (cellAt_length (by omega)) (fun v hv => hb v (cellAt_mem hv)) (sound_cells.1 hs k hk) ?_
    intro j hj
    rw [cellAt_getD _ _ _ hj, cellAt_getD _ _ _ hj, eg _ (by omega)]
    exact sub_or _ _ (getD_byte hb _)
theorem rowSet_same {row c : List Int} {k : Nat} (hk : (k + 1) * 32 ≤ row.length) (hc : c.length = 32) : cellAt (rowSet row k c) k = c := by
  unfold cellAt rowSet
  rw [List.append_assoc, List.drop_append_of_le_length (by simp; omega), List.drop_eq_nil_of_le (by simp; omega), List.nil_append, List.take_append_of_le_length (by omega), List.take_of_length_le (by omega)]
theorem rowSet_getD {row c : List Int} {k q : Nat} (hk : (k + 1) * 32 ≤ row.length) (hc : c.length = 32) (hq : q < k * 32 ∨ k * 32 + 32 ≤ q) : (rowSet row k c).getD q 0 = row.getD q 0 := by
  unfold rowSet
  rw [List.getD_eq_getElem?_getD, List.getD_eq_getElem?_getD]
  congr 1
  rcases hq with hq | hq
  · rw [List.append_assoc, List.getElem?_append_left (by simp; omega), List.getElem?_take, if_pos hq]
  · rw [List.getElem?_append_right (by simp; omega), List.getElem?_drop]
    congr 1
    simp; omega
theorem rowSet_other {row c : List Int} {k j : Nat} (hk : (k + 1) * 32 ≤ row.length) (hj : (j + 1) * 32 ≤ row.length) (hc : c.length = 32) (h : j ≠ k) : cellAt (rowSet row k c) j = cellAt row j := by
  have l1 : (cellAt (rowSet row k c) j).length = 32 := cellAt_length (by rw [rowSet_length hk hc]; exact hj)
  have l2 : (cellAt row j).length = 32 := cellAt_length hj
  refine ext_getD (l1.trans l2.symm) fun i hi => ?_
  rw [l1] at hi
  rw [cellAt_getD _ _ _ hi, cellAt_getD _ _ _ hi, rowSet_getD hk hc (by omega)]
theorem prog_getD (x : List Int) (f : Nat → Int) (i : Nat) (hi : i < 32) : (progCell blankCell x f).getD i 0 = bits .andNot .u8 255 (bits .andNot .u8 (f i) (x.getD i 0)) := by
  unfold progCell
  rw [mapTo_getD _ _ _ _ (by simpa [blankCell] using hi) hi]
  have : blankCell.getD i 0 = 255 := by
    unfold blankCell
    rw [List.getD_eq_getElem?_getD, List.getElem?_replicate, if_pos hi]; rfl
  rw [this]
theorem progCell_length (old x : List Int) (f : Nat → Int) (h : old.length = 32) : (progCell old x f).length = 32 := by
  unfold progCell mapTo; simpa using h
theorem half_prog (f : Nat → Int) {row : List Int} {l place : Nat} {kind slot n : Int} (hk : isByte kind) (hlen : row.length = l * 32) (hb : bytesOk row) (hs : soundM row l) (hp : place < l) (hbl : cellAt row place = blankCell) :
    soundM (rowSet row place (progCell (cellAt row place) (laidM kind slot n) f)) l ∧
    ∀ k, k < l → bytesOk (cellAt (rowSet row place (progCell (cellAt row place) (laidM kind slot n) fun _ => 255)) k) ∧ ((recM (cellAt (rowSet row place (progCell (cellAt row place) (laidM kind slot n) f)) k)).1 = 0 ∨
      (recM (cellAt (rowSet row place (progCell (cellAt row place) (laidM kind slot n) f)) k)).1 = 3 ∨
      recM (cellAt (rowSet row place (progCell (cellAt row place) (laidM kind slot n) f)) k) = recM (cellAt (rowSet row place (progCell (cellAt row place) (laidM kind slot n) fun _ => 255)) k)) := by
  rw [hbl]
  have hX := laidM_length kind slot n
  have hXb : bytesOk (laidM kind slot n) := tab_bytes fun k => by
    split
    · exact bodyM_byte hk _
    · exact byte_bits _ _ _
  have hXs := laid_sound kind slot n hk
  generalize laidM kind slot n = X at *
  have hcl : ∀ g, (progCell blankCell X g).length = 32 := fun g => progCell_length _ _ _ (by simp [blankCell])
  have hfull : progCell blankCell X (fun _ => 255) = X := by
    refine ext_getD ((hcl _).trans hX.symm) fun i hi => ?_
    rw [hcl] at hi
    rw [prog_getD _ _ _ hi]
    exact prog_full _ (getD_byte hXb _)
  rw [hfull]
  have hpl : (place + 1) * 32 ≤ row.length := by omega
  have hsub : ∀ j, j < 32 → sub8 (X.getD j 0) ((progCell blankCell X f).getD j 0) := by
    intro j hj
    rw [prog_getD _ _ _ hj]
    exact prog_blank _ _ (getD_byte hXb _)
  refine ⟨sound_cells.2 fun k hk' => ?_, fun k hk' => ?_⟩
  · by_cases e : k = place
    · rw [e, rowSet_same hpl (hcl f)]
      intro j hj
      exact sound_sub (hXs j hj) (hsub j (by omega)) (hsub (16 + j) (by omega))
    · rw [rowSet_other hpl (by omega) (hcl f) e]
      exact sound_cells.1 hs k hk'
  · by_cases e : k = place
    · rw [e, rowSet_same hpl (hcl f), rowSet_same hpl hX]
      exact ⟨hXb, rec_sub hX hXb hXs hsub⟩
    · rw [rowSet_other hpl (by omega) (hcl f) e, rowSet_other hpl (by omega) hX e]
      exact ⟨fun v hv => hb v (cellAt_mem hv), Or.inr (Or.inr rfl)⟩
section
variable {h0 h : H} {A : List Ent} {i j p r b : Nat} {C : Cm}
theorem Sound_sp {Q : Bool → H → Prop} {q : Option Addr} {l c : Nat} {row : List Int} (hs : Sat h0 A h) (rd : ∀ h', Sat h0 A h' → hsv h' q 32 l (ints .u8 row)) (hl : l < 2 ^ 60) (k : ∀ h', Sat h0 A h' → Q (decide (soundM row l)) h') : F_portcullisref08_Sound q l c Q h := by
  unfold F_portcullisref08_Sound G_portcullisref08_Sound
  intro J hJ
  refine loop_up l (fun n h => Sat h0 A h ∧ soundM row n) ?_ ?_ 0 _ (by omega) ⟨hs, fun i hi => by omega⟩
  · rintro n h1 hn ⟨hs, hm⟩ hk
    apply hJ
    rw [ltI_eq, if_pos (by simp; omega)]
    intro J2 hJ2
    refine loop_up 16 (fun m h => Sat h0 A h ∧ ∀ k, k < m → bits .or .u8 (row.getD (n * 32 + k) 0) (row.getD (n * 32 + (16 + k)) 0) = 255) ?_ ?_ 0 _ (by omega) ⟨hs, fun i hi => by omega⟩
    · rintro m h2 hm2 ⟨hs, hm3⟩ hk2
      apply hJ2
      rw [ltI_eq, if_pos (by simp; omega)]
      obtain ⟨q', hq, hk3, hr⟩ := hsv_cell (rd _ hs) hn
      have el : ∀ j, j < 32 → hc h2 ((q'.add (n * 32)).add j) = some (.int .u8 (row.getD (n * 32 + j) 0)) := by
        intro j hj
        refine hr j _ ?_
        rw [ints_get, List.getElem?_eq_getElem (by rw [cellAt_length hk3]; exact hj), ← cellAt_getD row n j hj]
        simp [List.getD, List.getElem?_eq_getElem (show j < (cellAt row n).length by rw [cellAt_length hk3]; exact hj)]
      have ew : IntKind.i64.wrap (16 + (m : Int)) = ((16 + m : Nat) : Int) := by rw [wrap_id (by omega)]; omega
      refine ⟨_, hq, by omega, by omega, by omega, by omega, _, by rw [Int.toNat_natCast, Int.toNat_natCast, Nat.mul_one]; exact el m (by omega), ?_⟩
      refine ⟨_, hq, by omega, by omega, by rw [ew]; omega, by rw [ew]; omega, _, by rw [ew, Int.toNat_natCast, Int.toNat_natCast, Nat.mul_one]; exact el (16 + m) (by omega), ?_⟩
      by_cases c : bits .or .u8 (row.getD (n * 32 + m) 0) (row.getD (n * 32 + (16 + m)) 0) = 255
      · rw [if_neg (by rw [c]; simp), wrap_succ (by omega)]
        refine hk2 _ ⟨hs, fun k hk4 => ?_⟩
        by_cases e : k = m
        · rw [e]; exact c
        · exact hm3 k (by omega)
      · rw [if_pos (by rw [bne_iff_ne]; exact c)]
        have := k _ hs
        rw [decide_eq_false (fun y => c (y n hn m hm2))] at this
        exact this
    · rintro h2 ⟨hs, hm3⟩
      apply hJ2
      rw [ltI_eq, if_neg (by simp), wrap_succ (by omega)]
      refine hk _ ⟨hs, fun i hi => ?_⟩
      by_cases e : i = n
      · rw [e]; exact hm3
      · exact hm i (by omega)
  · rintro h1 ⟨hs, hm⟩
    apply hJ
    rw [ltI_eq, if_neg (by simp)]
    have := k _ hs
    rw [decide_eq_true hm] at this
    exact this
end
end Go.Proofs.Ytamfkofcpoglnaa
