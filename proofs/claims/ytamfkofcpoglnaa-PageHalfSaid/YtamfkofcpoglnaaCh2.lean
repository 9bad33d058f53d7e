/- Contracts: blank cells, clones. Own work. -/
import Derived.Test.YtamfkofcpoglnaaFa1
import Derived.Test.YtamfkofcpoglnaaCh1
import Derived.Test.YtamfkofcpoglnaaLp
import Derived.Test.YtamfkofcpoglnaaFa2
set_option autoImplicit false
set_option linter.all false
set_option linter.unusedVariables false
namespace Go.Proofs.Ytamfkofcpoglnaa
open Go Go.Vc

def blankCell : List Int := List.replicate 32 255
theorem mapTo_const (n : Nat) (v : Int) (ns : List Int) (hl : ns.length = n) : mapTo (fun _ _ => v) n ns = List.replicate n v := by
  apply List.ext_getElem?; intro j
  rw [mapTo_get, List.getElem?_replicate]
  by_cases h : j < n
  · simp [h, hl]
  · rw [if_neg h, List.getElem?_eq_none (by omega)]; rfl

theorem blank_spec (Q : List Int → H → Prop) (h : H) (k : ∀ h', Ext none_ h h' → Q blankCell h') : F_chip_blank Q h := by
  unfold F_chip_blank G_chip_blank
  intro b2 h3 n2 b5 h6 n5 J hJ
  have x6 : Ext none_ h h6 := n2.ext.trans n5.ext
  have hb2 : b2 < h6.size := by have := n2.size; have := n5.size; have := n2.b; omega
  have hb2' : h.size ≤ b2 := by rw [n2.b]; exact Nat.le_refl _
  have hb5 : h.size ≤ b5 := by have := n2.size; rw [n5.b]; omega
  have hne : b2 ≠ b5 := by have := n2.size; have := n5.b; have := n2.b; omega
  refine loop_up 32 (fun i h' => Blk h' b5 (ints .u8 (mapTo (fun _ _ => 255) i (zeros 32))) ∧ Blk h' b2 (ints .u8 (zeros 32)) ∧ Ext none_ h h') ?_ ?_ 0 h6 (by omega)
    ⟨by simpa using n5.blk, n5.ext.blk n2.blk (fun x => x), x6⟩
  · rintro i h' hi ⟨k5, k2, hx⟩ hk
    apply hJ
    rw [ltI_eq, if_pos (by simp; omega)]
    refine ⟨by omega, by omega, ?_, ?_⟩
    · simp only [add_mk]; apply k5.can; simp; omega
    · intro h11 e
      simp only [add_mk, Int.toNat_natCast, Nat.mul_one, Nat.zero_add] at e
      rw [wrap_succ (by omega)]
      refine hk h11 ?_
      have w := k5.wr i [Value.int .u8 255]
      have w2 := k2.wr_ne (a := ⟨b5, i, none⟩) (xs := [Value.int .u8 255]) hne
      rw [← e] at w w2
      refine ⟨?_, w2, ?_⟩
      · simp only [splice_cons, splice_nil, ints_set] at w
        have := mapTo_succ (fun _ _ => 255) i (zeros 32) (by simpa using hi)
        rw [this] at w; exact w
      · rw [e]; exact hx.comp (Ext.wr h' b5 i _) (by rintro x h1 rfl; omega)
  · rintro h' ⟨k5, k2, hx⟩
    apply hJ
    rw [ltI_eq, if_neg (by simp)]
    rw [mapTo_const 32 255 _ (by simp)] at k5
    refine ⟨blankCell, by simp [blankCell], k5.hrow (by intro i hi; rw [Nat.zero_add, ints_get]; rfl), k2.can (by simp), ?_⟩
    intro h14 e
    have w := k2.wr 0 (ints IntKind.u8 blankCell ++ [])
    rw [splice_all _ _ (by simp [blankCell])] at w
    rw [← e] at w
    refine ⟨blankCell, by simp [blankCell], w.hrow (by intro i hi; simp [ints_get]), k _ ?_⟩
    rw [e]; exact hx.comp (Ext.wr h' b2 0 _) (by rintro x h1 rfl; omega)

theorem clone_body (sz : Nat) (z : List Value) (B : Nat) (hsz : 0 < sz) (hz : z.length = sz) (p : Option Addr) (l : Nat) (vs : List Value) (Q : Option Addr → Nat → Nat → H → Prop) (h : H) (hs : hsv h p sz l vs) (hb : l * B ≤ 2 ^ 47)
    (k : ∀ p' c' h' bs, Ext none_ h h' → OwnS h' p' l c' sz vs bs → newB h bs → Q p' l c' h') :
    if p.isNone = true then Q none 0 0 h else ∀ (n5 : Nat) (h6 : H), hnew h n5 [] h6 → ∃ (l8 : List Value), hsv h6 p sz l l8 ∧
      pApp h6 sz z B (some (Addr.mk n5 0 none)) 0 0 l l8 fun (o9 : Option Addr) (n10 n11 : Nat) (h12 : H) => Q o9 n10 n11 h12 := by
  cases p with
  | none =>
    have e := hsv_none hs
    have hl : l = 0 := by
      have := hs.1; rw [e] at this
      rcases Nat.eq_zero_or_pos l with h0 | h0
      · exact h0
      · have := Nat.mul_pos h0 hsz; simp_all
    subst hl
    simp only [Option.isNone_none, if_true]
    refine k none 0 h [] (Ext.refl _ _) ?_ (by intro b hb; simp at hb)
    rw [e]; exact OwnS.nil _ _ _
  | some a =>
    rw [if_neg (by simp)]
    intro b h' hn
    have hs' := hsv_ext hn.ext hs (fun _ _ x => x)
    refine ⟨_, hs', pApp_empty hs'.1 hz hs'.2.1 hb ?_⟩
    intro p' c' h'' bs hx ho hbs
    exact k p' c' h'' bs (hn.ext.trans hx) ho (hbs.ext hn.ext)
theorem Clone_bytes_spec (p : Option Addr) (l c : Nat) (vs : List Value) (Q : Option Addr → Nat → Nat → H → Prop) (h : H) (hs : hsv h p 1 l vs) (hb : l * 1 ≤ 2 ^ 47)
    (k : ∀ p' c' h' bs, Ext none_ h h' → OwnS h' p' l c' 1 vs bs → newB h bs → Q p' l c' h') : F_slices_Clone_byte_byte p l c Q h := by
  unfold F_slices_Clone_byte_byte; exact clone_body 1 _ 1 (by omega) rfl p l vs Q h hs hb k
theorem Clone_ints_spec (p : Option Addr) (l c : Nat) (vs : List Value) (Q : Option Addr → Nat → Nat → H → Prop) (h : H) (hs : hsv h p 1 l vs) (hb : l * 8 ≤ 2 ^ 47)
    (k : ∀ p' c' h' bs, Ext none_ h h' → OwnS h' p' l c' 1 vs bs → newB h bs → Q p' l c' h') : F_slices_Clone_int_int p l c Q h := by
  unfold F_slices_Clone_int_int; exact clone_body 1 _ 8 (by omega) rfl p l vs Q h hs hb k
theorem Clone_bools_spec (p : Option Addr) (l c : Nat) (vs : List Value) (Q : Option Addr → Nat → Nat → H → Prop) (h : H) (hs : hsv h p 1 l vs) (hb : l * 1 ≤ 2 ^ 47)
    (k : ∀ p' c' h' bs, Ext none_ h h' → OwnS h' p' l c' 1 vs bs → newB h bs → Q p' l c' h') : F_slices_Clone_bool_bool p l c Q h := by
  unfold F_slices_Clone_bool_bool; exact clone_body 1 _ 1 (by omega) rfl p l vs Q h hs hb k
theorem Clone_cells_spec (p : Option Addr) (l c : Nat) (vs : List Value) (Q : Option Addr → Nat → Nat → H → Prop) (h : H) (hs : hsv h p 32 l vs) (hb : l * 32 ≤ 2 ^ 47)
    (k : ∀ p' c' h' bs, Ext none_ h h' → OwnS h' p' l c' 32 vs bs → newB h bs → Q p' l c' h') : F_slices_Clone_api_Cell_api_Cell p l c Q h := by
  unfold F_slices_Clone_api_Cell_api_Cell; exact clone_body 32 _ 32 (by omega) (by simp) p l vs Q h hs hb k
end Go.Proofs.Ytamfkofcpoglnaa
