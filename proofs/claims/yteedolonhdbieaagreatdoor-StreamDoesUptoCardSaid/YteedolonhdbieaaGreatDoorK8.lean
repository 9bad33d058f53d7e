/- StreamDoes and its parts, laid together by a program of ours: F F Hp Hs Lp -/
import Derived.Test.YteedolonhdbieaaGreatDoorK7
set_option autoImplicit false
set_option linter.all false
section
namespace Go.Proofs.YteedolonhdbieaaGreatDoor
open Go Go.Vc
set_option maxRecDepth 100000
def K1_portcullisref13_Check (c0 : Int -> Int -> Int -> Int -> Int -> Int -> Int -> (Int -> H -> Prop) -> H -> Prop) (c1 : Addr -> Int -> (Int -> Int -> H -> Prop) -> H -> Prop) (e : Addr) (Q : Int -> Int -> Int -> OA -> Nat -> Nat -> List Int -> Int -> H -> Prop) (aw : H) (u : Nat) (ax : List Int) (c : Nat) (a : Nat) : Prop := ∀ f, f = hwr aw (P_ u 0) (ints .u8 ax ++ []) -> ∃ (l : List Int), l.length = 32 /\ hrow f (P_ u 0) .u8 l /\ ∃ (m : List Int), m.length = 32 /\ hrow f (P_ c 4) .u8 m /\ if !l == m then hcan f (P_ a 0) 36 /\ ∀ g, g = hwr f (P_ a 0) (vi 0 :: vi 0 :: vi 0 :: .slice none 0 0 :: ints .u8 (zeros 32)) -> ∃ v, hc g (P_ a 0) = some (vi v) /\ ∃ w, hc g (P_ a 1) = some (vi w) /\ ∃ x, hc g (P_ a 2) = some (vi x) /\ ∃ y z A, hc g (P_ a 3) = some (.slice y z A) /\ ∃ (n : List Int), n.length = 32 /\ hrow g (P_ a 4) .u8 n /\ Q v w x y z A n 15 g else ∃ B, hc f (P_ c 0) = some (vi B) /\ c1 e B (fun ay C b => if C != 0 then hcan b (P_ a 0) 36 /\ ∀ h, h = hwr b (P_ a 0) (vi 0 :: vi 0 :: vi 0 :: .slice none 0 0 :: ints .u8 (zeros 32)) -> ∃ E, hc h (P_ a 0) = some (vi E) /\ ∃ F, hc h (P_ a 1) = some (vi F) /\ ∃ G, hc h (P_ a 2) = some (vi G) /\ ∃ I J K, hc h (P_ a 3) = some (.slice I J K) /\ ∃ (o : List Int), o.length = 32 /\ hrow h (P_ a 4) .u8 o /\ Q E F G I J K o C h else ∃ L, hc b (P_ c 2) = some (vi L) /\ if ltI L ay then hcan b (P_ a 0) 36 /\ ∀ i, i = hwr b (P_ a 0) (vi 0 :: vi 0 :: vi 0 :: .slice none 0 0 :: ints .u8 (zeros 32)) -> ∃ M, hc i (P_ a 0) = some (vi M) /\ ∃ N, hc i (P_ a 1) = some (vi N) /\ ∃ O, hc i (P_ a 2) = some (vi O) /\ ∃ P R T, hc i (P_ a 3) = some (.slice P R T) /\ ∃ (p : List Int), p.length = 32 /\ hrow i (P_ a 4) .u8 p /\ Q M N O P R T p 16 i else ∃ q, hc b (P_ c 2) = some (vi q) /\ ∃ U, hc b e = some (vi U) /\ ∃ V, hc b (e.add 1) = some (vi V) /\ ∃ X, hc b (e.add 2) = some (vi X) /\ ∃ Y, hc b (e.add 3) = some (vi Y) /\ ∃ Z, hc b (e.add 4) = some (vi Z) /\ ∃ aa, hc b (e.add 5) = some (vi aa) /\ ∃ ab, hc b (e.add 6) = some (vi ab) /\ c0 U V X Y Z aa ab (fun az d => hcs d (P_ c 2) [vi q] /\ if ltI az q then hcan d (P_ a 0) 36 /\ ∀ j, j = hwr d (P_ a 0) (vi 0 :: vi 0 :: vi 0 :: .slice none 0 0 :: ints .u8 (zeros 32)) -> ∃ ac, hc j (P_ a 0) = some (vi ac) /\ ∃ ad, hc j (P_ a 1) = some (vi ad) /\ ∃ ae, hc j (P_ a 2) = some (vi ae) /\ ∃ af ag ah, hc j (P_ a 3) = some (.slice af ag ah) /\ ∃ (r : List Int), r.length = 32 /\ hrow j (P_ a 4) .u8 r /\ Q ac ad ae af ag ah r 16 j else ∃ ai, hc d (P_ c 0) = some (vi ai) /\ ∃ aj, hc d (P_ c 1) = some (vi aj) /\ ∃ ak, hc d (P_ c 2) = some (vi ak) /\ ∃ al am an, hc d (P_ c 3) = some (.slice al am an) /\ ∃ (s : List Int), s.length = 32 /\ hrow d (P_ c 4) .u8 s /\ hcan d (P_ a 0) 36 /\ ∀ k, k = hwr d (P_ a 0) (vi ai :: vi aj :: vi ak :: .slice al am an :: (ints .u8 s ++ [])) -> ∃ ao, hc k (P_ a 0) = some (vi ao) /\ ∃ ap, hc k (P_ a 1) = some (vi ap) /\ ∃ aq, hc k (P_ a 2) = some (vi aq) /\ ∃ ar au av, hc k (P_ a 3) = some (.slice ar au av) /\ ∃ (t : List Int), t.length = 32 /\ hrow k (P_ a 4) .u8 t /\ Q ao ap aq ar au av t 0 k) b) f
def G_portcullisref13_Check (c0 : OA -> Nat -> Nat -> (Int -> Int -> Int -> OA -> Nat -> Nat -> List Int -> Int -> Int -> H -> Prop) -> H -> Prop) (c1 : Addr -> Int -> (Bool -> H -> Prop) -> H -> Prop) (c2 : OA -> Nat -> Nat -> (OA -> Nat -> Nat -> H -> Prop) -> H -> Prop) (c3 : Int -> Int -> Int -> Int -> Int -> Int -> Int -> (Int -> H -> Prop) -> H -> Prop) (c4 : Addr -> Int -> OA -> Nat -> Nat -> (List Int -> Int -> H -> Prop) -> H -> Prop) (c5 : Addr -> Int -> (Int -> Int -> H -> Prop) -> H -> Prop) (c6 : Addr -> Int -> (Bool -> Int -> H -> Prop) -> H -> Prop) (f : Addr) (r : Addr) (s : OA) (t : Nat) (u : Nat) (Q : Int -> Int -> Int -> OA -> Nat -> Nat -> List Int -> Int -> H -> Prop) (h : H) : Prop :=
∀ a q, hnew h a (vi 0 :: vi 0 :: vi 0 :: .slice none 0 0 :: ints .u8 (zeros 32)) q -> ∃ P, hc q (f.add 11) = some (.bool P) /\ if P then hcan q (P_ a 0) 36 /\ ∀ g, g = hwr q (P_ a 0) (vi 0 :: vi 0 :: vi 0 :: .slice none 0 0 :: ints .u8 (zeros 32)) -> ∃ R, hc g (P_ a 0) = some (vi R) /\ ∃ T, hc g (P_ a 1) = some (vi T) /\ ∃ U, hc g (P_ a 2) = some (vi U) /\ ∃ V X Y, hc g (P_ a 3) = some (.slice V X Y) /\ ∃ (v : List Int), v.length = 32 /\ hrow g (P_ a 4) .u8 v /\ Q R T U V X Y v 8 g else c0 s t u (fun bt bu bv bw bx bz b0 b1 b2 b3 => ∀ b Z, hnew b3 b (vi 0 :: vi 0 :: vi 0 :: .slice none 0 0 :: ints .u8 (zeros 32)) Z -> ∀ p w, hnew Z p [vi 0, vi 0] w -> hcan w (P_ b 0) 36 /\ ∀ x, x = hwr w (P_ b 0) (vi bt :: vi bu :: vi bv :: .slice bw bx bz :: (ints .u8 b0 ++ [])) -> hcan x (P_ p 0) 2 /\ ∀ c, c = hwr x (P_ p 0) [vi b1, vi b2] -> ∃ aa, hc c (P_ p 0) = some (vi aa) /\ if aa != 0 then ∃ y, hc c (P_ p 0) = some (vi y) /\ hcan c (P_ a 0) 36 /\ ∀ d, d = hwr c (P_ a 0) (vi 0 :: vi 0 :: vi 0 :: .slice none 0 0 :: ints .u8 [0, 0, 0, 0, 0, 0, 0, 0, 0, 0, 0, 0, 0, 0, 0, 0, 0, 0, 0, 0, 0, 0, 0, 0, 0, 0, 0, 0, 0, 0, 0, 0]) -> hcs d (P_ p 0) [vi y] /\ ∃ ab, hc d (P_ a 0) = some (vi ab) /\ ∃ ac, hc d (P_ a 1) = some (vi ac) /\ ∃ ad, hc d (P_ a 2) = some (vi ad) /\ ∃ ae af ag, hc d (P_ a 3) = some (.slice ae af ag) /\ ∃ (z : List Int), z.length = 32 /\ hrow d (P_ a 4) .u8 z /\ Q ab ac ad ae af ag z y d else ∃ ah, hc c (P_ b 0) = some (vi ah) /\ ∃ ai, hc c (f.add 1) = some (vi ai) /\ if leI ai ah then hcan c (P_ a 0) 36 /\ ∀ i, i = hwr c (P_ a 0) (vi 0 :: vi 0 :: vi 0 :: .slice none 0 0 :: ints .u8 (zeros 32)) -> ∃ aj, hc i (P_ a 0) = some (vi aj) /\ ∃ ak, hc i (P_ a 1) = some (vi ak) /\ ∃ al, hc i (P_ a 2) = some (vi al) /\ ∃ am an ao, hc i (P_ a 3) = some (.slice am an ao) /\ ∃ (A : List Int), A.length = 32 /\ hrow i (P_ a 4) .u8 A /\ Q aj ak al am an ao A 5 i else ∀ (ap : JT), (∀ (B : H), (∃ aq, hc B (P_ b 1) = some (vi aq) /\ c6 f aq (fun b4 ar j => if ar != 0 then hcan j (P_ a 0) 36 /\ ∀ k, k = hwr j (P_ a 0) (vi 0 :: vi 0 :: vi 0 :: .slice none 0 0 :: ints .u8 (zeros 32)) -> ∃ au, hc k (P_ a 0) = some (vi au) /\ ∃ av, hc k (P_ a 1) = some (vi av) /\ ∃ aw, hc k (P_ a 2) = some (vi aw) /\ ∃ ax ay az, hc k (P_ a 3) = some (.slice ax ay az) /\ ∃ (C : List Int), C.length = 32 /\ hrow k (P_ a 4) .u8 C /\ Q au av aw ax ay az C ar k else if b4 then hcan j (P_ a 0) 36 /\ ∀ l, l = hwr j (P_ a 0) (vi 0 :: vi 0 :: vi 0 :: .slice none 0 0 :: ints .u8 (zeros 32)) -> ∃ a2, hc l (P_ a 0) = some (vi a2) /\ ∃ a3, hc l (P_ a 1) = some (vi a3) /\ ∃ a4, hc l (P_ a 2) = some (vi a4) /\ ∃ a5 a6 a7, hc l (P_ a 3) = some (.slice a5 a6 a7) /\ ∃ (E : List Int), E.length = 32 /\ hrow l (P_ a 4) .u8 E /\ Q a2 a3 a4 a5 a6 a7 E 14 l else ∃ e, hc j (P_ b 1) = some (vi e) /\ c2 s t u (fun a8 a9 ba F => hcs F (P_ b 1) [vi e] /\ c4 r e a8 a9 ba (fun b5 cd b6 => ∀ G I, hnew b6 G (ints .u8 (zeros 32)) I -> hcan I (P_ G 0) 32 /\ K1_portcullisref13_Check c3 c5 f Q I G b5 b a) F /\ ∀ J K, hnew F J (ints .u8 (zeros 32)) K -> hcs K (P_ b 1) [vi e] /\ c4 r e a8 a9 ba (fun b7 ce bb => hcan bb (P_ J 0) 32 /\ K1_portcullisref13_Check c3 c5 f Q bb J b7 b a) K) j /\ ∀ L M, hnew j L (ints .u8 (zeros 32)) M -> hcs M (P_ b 1) [vi e] /\ c2 s t u (fun b8 b9 ca bc => hcs bc (P_ b 1) [vi e] /\ c4 r e b8 b9 ca (fun cb cf bd => hcan bd (P_ L 0) 32 /\ K1_portcullisref13_Check c3 c5 f Q bd L cb b a) bc) M) B) -> ap [] B) -> ∃ be, hc c (P_ b 1) = some (vi be) /\ c1 r be (fun cc m => if !cc then hcan m (P_ a 0) 36 /\ ∀ n, n = hwr m (P_ a 0) (vi 0 :: vi 0 :: vi 0 :: .slice none 0 0 :: ints .u8 (zeros 32)) -> ∃ bf, hc n (P_ a 0) = some (vi bf) /\ ∃ bg, hc n (P_ a 1) = some (vi bg) /\ ∃ bh, hc n (P_ a 2) = some (vi bh) /\ ∃ bi bj bk, hc n (P_ a 3) = some (.slice bi bj bk) /\ ∃ (N : List Int), N.length = 32 /\ hrow n (P_ a 4) .u8 N /\ Q bf bg bh bi bj bk N 13 n else ∃ bl, hc m (P_ b 1) = some (vi bl) /\ ∃ bm, hc m (f.add 4) = some (vi bm) /\ if leI bm bl then hcan m (P_ a 0) 36 /\ ∀ o, o = hwr m (P_ a 0) (vi 0 :: vi 0 :: vi 0 :: .slice none 0 0 :: ints .u8 (zeros 32)) -> ∃ bn, hc o (P_ a 0) = some (vi bn) /\ ∃ bo, hc o (P_ a 1) = some (vi bo) /\ ∃ bp, hc o (P_ a 2) = some (vi bp) /\ ∃ bq br bs, hc o (P_ a 3) = some (.slice bq br bs) /\ ∃ (O : List Int), O.length = 32 /\ hrow o (P_ a 4) .u8 O /\ Q bn bo bp bq br bs O 13 o else ap [] m) c) q
theorem E_portcullisref13_Check : ∀ c0 c1 c2 c3 c4 c5 c6 a0 a1 a2p a2l a2c Q h, G_portcullisref13_Check c0 c1 c2 c3 c4 c5 c6 a0 a1 a2p a2l a2c Q h = Dbody PP [(16, W [.slc] [.ag [Si, Si, Si, .slc, .row .u8 32], .ag [Si, Si]] c0), (89, W [.addr, Ti] [.bool] c1), (105, W [.slc] [.slc] c2), (106, W [.ag [Si, Si, Si, Si, Si, Si, Si]] [Ti] c3), (175, W [.addr, Ti, .slc] [.ag [.row .u8 32], Ti] c4), (179, W [.addr, Ti] [Ti, Ti] c5), (209, W [.addr, Ti] [.bool, Ti] c6)] [(63, [])] Tryz.f186 [.addr a0, .addr a1, .one (.slice a2p a2l a2c)] (decR [.ag [Si, Si, Si, .slc, .row .u8 32], Ti] Q) h := by intros; kernel_rfl
def F_portcullisref13_Check := G_portcullisref13_Check F_portcullisref11_Parse F_portcullisref12_Ring_Has F_portcullisref11_Body F_portcullisref10_Last F_portcullisref12_Ring_Sign F_portcullisref10_Read F_portcullisref10_Revoked
theorem R_portcullisref13_Check : RunOk PP 186 (W [.addr, .addr, .slc] [.ag [Si, Si, Si, .slc, .row .u8 32], Ti] F_portcullisref13_Check) := runOk_of (tc R_portcullisref11_Parse (tc R_portcullisref12_Ring_Has (tc R_portcullisref11_Body (tc R_portcullisref10_Last (tc R_portcullisref12_Ring_Sign (tc R_portcullisref10_Read (tc R_portcullisref10_Revoked (tn)))))))) Tryz.func186 (by kernel_rfl) (by kernel_rfl) (E_portcullisref13_Check _ _ _ _ _ _ _)
attribute [irreducible] F_portcullisref13_Check
def G_portcullisref26_Gate_Sum (c0 : Addr -> Addr -> OA -> Nat -> Nat -> (Int -> Int -> Int -> OA -> Nat -> Nat -> List Int -> Int -> H -> Prop) -> H -> Prop) (d : Addr) (Q : Int -> Int -> Int -> OA -> Nat -> Nat -> List Int -> Int -> H -> Prop) (h : H) : Prop := ∀ a c, hnew h a (vi 0 :: vi 0 :: vi 0 :: .slice none 0 0 :: ints .u8 (zeros 32)) c -> ∃ f, hc c d = some (.pointer f) /\ ∃ g, hc c (d.add 1) = some (.pointer g) /\ ∃ i j k, hc c (d.add 2) = some (.slice i j k) /\ ∃ l, f = some l /\ ∃ m, g = some m /\ c0 l m i j k (fun u v w x y z A B n => hcan n (P_ a 0) 36 /\ ∀ b, b = hwr n (P_ a 0) (vi u :: vi v :: vi w :: .slice x y z :: (ints .u8 A ++ [])) -> ∃ o, hc b (P_ a 0) = some (vi o) /\ ∃ p, hc b (P_ a 1) = some (vi p) /\ ∃ q, hc b (P_ a 2) = some (vi q) /\ ∃ r s t, hc b (P_ a 3) = some (.slice r s t) /\ ∃ (e : List Int), e.length = 32 /\ hrow b (P_ a 4) .u8 e /\ Q o p q r s t e B b) c
theorem E_portcullisref26_Gate_Sum : ∀ c0 a0 Q h, G_portcullisref26_Gate_Sum c0 a0 Q h = Dbody PP [(186, W [.addr, .addr, .slc] [.ag [Si, Si, Si, .slc, .row .u8 32], Ti] c0)] [] Tryz.f115 [.addr a0] (decR [.ag [Si, Si, Si, .slc, .row .u8 32], Ti] Q) h := by intros; kernel_rfl
def F_portcullisref26_Gate_Sum := G_portcullisref26_Gate_Sum F_portcullisref13_Check
theorem R_portcullisref26_Gate_Sum : RunOk PP 115 (W [.addr] [.ag [Si, Si, Si, .slc, .row .u8 32], Ti] F_portcullisref26_Gate_Sum) := runOk_of (tc R_portcullisref13_Check (tn)) Tryz.func115 (by kernel_rfl) (by kernel_rfl) (E_portcullisref26_Gate_Sum _)
attribute [irreducible] F_portcullisref26_Gate_Sum
def G_portcullislaw26_pair_sum (c0 : Addr -> (Int -> Int -> Int -> Int -> Int -> H -> Prop) -> H -> Prop) (c1 : Addr -> (Int -> Int -> Int -> OA -> Nat -> Nat -> List Int -> Int -> H -> Prop) -> H -> Prop) (p : OA) (q : OA) (Q : Bool -> H -> Prop) (h : H) : Prop := ∀ c d, hnew h c [.pointer p, .pointer q] d -> ∃ f, hc d (P_ c 0) = some (.pointer f) /\ ∃ g, f = some g /\ c0 g (fun r s t u v i => ∃ j, hc i (P_ c 1) = some (.pointer j) /\ ∃ k, j = some k /\ c1 k (fun w x y z A B C E F => ∀ b e, hnew F b (vi 0 :: vi 0 :: vi 0 :: .slice none 0 0 :: ints .u8 (zeros 32)) e -> hcan e (P_ b 0) 36 /\ ∀ a, a = hwr e (P_ b 0) (vi w :: vi x :: vi y :: .slice z A B :: (ints .u8 C ++ [])) -> if v == E then ∃ l, hc a (P_ b 0) = some (vi l) /\ if r == l then ∃ m, hc a (P_ b 1) = some (vi m) /\ if s == m then ∃ n, hc a (P_ b 2) = some (vi n) /\ if t == n then ∃ G o I, hc a (P_ b 3) = some (.slice G o I) /\ Q (u == (↑o : Int)) a else Q false a else Q false a else Q false a else Q false a) i) d
theorem E_portcullislaw26_pair_sum : ∀ c0 c1 a0_0 a0_1 Q h, G_portcullislaw26_pair_sum c0 c1 a0_0 a0_1 Q h = Dbody PP [(17, W [.addr] [Ti, Ti, Ti, Ti, Ti] c0), (115, W [.addr] [.ag [Si, Si, Si, .slc, .row .u8 32], Ti] c1)] [] Tryz.f35 [.agg [.c (.pointer a0_0), .c (.pointer a0_1)]] (decR [.bool] Q) h := by intros; kernel_rfl
def F_portcullislaw26_pair_sum := G_portcullislaw26_pair_sum F_stream_Gate_Sum F_portcullisref26_Gate_Sum
theorem R_portcullislaw26_pair_sum : RunOk PP 35 (W [.ag [.ptr, .ptr]] [.bool] F_portcullislaw26_pair_sum) := runOk_of (tc R_stream_Gate_Sum (tc R_portcullisref26_Gate_Sum (tn))) Tryz.func35 (by kernel_rfl) (by kernel_rfl) (E_portcullislaw26_pair_sum _ _)
attribute [irreducible] F_portcullislaw26_pair_sum
def G_portcullisref26_Gate_Digest (c0 : OA -> Nat -> Nat -> (List Int -> H -> Prop) -> H -> Prop) (j : Addr) (Q : List Int -> H -> Prop) (h : H) : Prop := ∀ a b, hnew h a (ints .u8 (zeros 32)) b -> ∃ e f g, hc b (j.add 2) = some (.slice e f g) /\ c0 e f g (fun k i => hcan i (P_ a 0) 32 /\ ∀ c, c = hwr i (P_ a 0) (ints .u8 k ++ []) -> ∃ (d : List Int), d.length = 32 /\ hrow c (P_ a 0) .u8 d /\ Q d c) b
theorem E_portcullisref26_Gate_Digest : ∀ c0 a0 Q h, G_portcullisref26_Gate_Digest c0 a0 Q h = Dbody PP [(116, W [.slc] [.ag [.row .u8 32]] c0)] [] Tryz.f36 [.addr a0] (decR [.ag [.row .u8 32]] Q) h := by intros; kernel_rfl
def F_portcullisref26_Gate_Digest := G_portcullisref26_Gate_Digest F_portcullisref02_Of
theorem R_portcullisref26_Gate_Digest : RunOk PP 36 (W [.addr] [.ag [.row .u8 32]] F_portcullisref26_Gate_Digest) := runOk_of (tc R_portcullisref02_Of (tn)) Tryz.func36 (by kernel_rfl) (by kernel_rfl) (E_portcullisref26_Gate_Digest _)
attribute [irreducible] F_portcullisref26_Gate_Digest
def G_chip_Chip_Cut (c0 : OA -> Nat -> Nat -> (OA -> Nat -> Nat -> H -> Prop) -> H -> Prop) (a : Addr) (c : Int) (f : OA) (g : Nat) (i : Nat) (Q : H -> Prop) (h : H) : Prop := c0 f g i (fun j k l d => hcan d (a.add 12) 1 /\ ∀ b, b = hwr d (a.add 12) [vi (if c > -1 then c else -1)] -> hcan b (a.add 13) 1 /\ ∀ e, e = hwr b (a.add 13) [.slice j k l] -> Q e) h
theorem E_chip_Chip_Cut : ∀ c0 a0 a1 a2p a2l a2c Q h, G_chip_Chip_Cut c0 a0 a1 a2p a2l a2c Q h = Dbody PP [(118, W [.slc] [.slc] c0)] [] Tryz.f39 [.addr a0, .one (.int .i64 a1), .one (.slice a2p a2l a2c)] (decR [] Q) h := by intros; kernel_rfl
def F_chip_Chip_Cut := G_chip_Chip_Cut F_slices_Clone_byte_byte
theorem R_chip_Chip_Cut : RunOk PP 39 (W [.addr, Ti, .slc] [] F_chip_Chip_Cut) := runOk_of (tc R_slices_Clone_byte_byte (tn)) Tryz.func39 (by kernel_rfl) (by kernel_rfl) (E_chip_Chip_Cut _)
attribute [irreducible] F_chip_Chip_Cut
def G_chip_Chip_Restore (a : Addr) (Q : H -> Prop) (h : H) : Prop := hcan h (a.add 11) 1 /\ ∀ b, b = hwr h (a.add 11) [.bool false] -> Q b
theorem E_chip_Chip_Restore : ∀ a0 Q h, G_chip_Chip_Restore a0 Q h = Dbody PP [] [] Tryz.f43 [.addr a0] (decR [] Q) h := by intros; kernel_rfl
def F_chip_Chip_Restore := G_chip_Chip_Restore
theorem R_chip_Chip_Restore : RunOk PP 43 (W [.addr] [] F_chip_Chip_Restore) := runOk_of (tn) Tryz.func43 (by kernel_rfl) (by kernel_rfl) (E_chip_Chip_Restore)
attribute [irreducible] F_chip_Chip_Restore
def G_portcullislaw26_lent (m : OA) (a : Nat) (n : Nat) (Q : OA -> Nat -> Nat -> H -> Prop) (h : H) : Prop := 0 ≤ IntKind.i64.wrap ((↑a : Int) + 4) /\ IntKind.i64.wrap ((↑a : Int) + 4) ≤ IntKind.i64.wrap ((↑a : Int) + 4) /\ (↑1 : Int) * IntKind.i64.wrap ((↑a : Int) + 4) ≤ 2 ^ 48 /\ IntKind.i64.wrap ((↑a : Int) + 4) ≤ 2 ^ 48 /\ ∀ c d, hnew h c (List.replicate (IntKind.i64.wrap ((↑a : Int) + 4)).toNat [.int .u8 0]).flatten d -> ∃ (f : List Value), hsv d m 1 (a.min (IntKind.i64.wrap ((↑a : Int) + 4)).toNat) f /\ (f = [] ∨ ∃ j, some (P_ c 0) = some j /\ hcan d j (a.min (IntKind.i64.wrap ((↑a : Int) + 4)).toNat * 1)) /\ ∀ (k : H), k = hwrO d (some (P_ c 0)) f -> ∀ (g : JT), (∀ (b : Int) (e : H), (if ltI b 4 then ∃ i, some (P_ c 0) = some i /\ 0 ≤ IntKind.i64.wrap ((↑a : Int) + b) /\ IntKind.i64.wrap ((↑a : Int) + b) < (↑(IntKind.i64.wrap ((↑a : Int) + 4)).toNat : Int) /\ hcan e (i.add ((IntKind.i64.wrap ((↑a : Int) + b)).toNat * 1)) 1 /\ ∀ l, l = hwr e (i.add ((IntKind.i64.wrap ((↑a : Int) + b)).toNat * 1)) [.int .u8 (IntKind.u8.wrap (IntKind.i64.wrap (161 + b)))] -> g [.dv (.one (vi (IntKind.i64.wrap (b + 1))))] l else Q (some (P_ c 0)) (IntKind.i64.wrap ((↑a : Int) + 4)).toNat (IntKind.i64.wrap ((↑a : Int) + 4)).toNat e) -> g [.dv (.one (vi b))] e) -> g [.dv (.one (vi 0))] k
theorem E_portcullislaw26_lent : ∀ a0p a0l a0c Q h, G_portcullislaw26_lent a0p a0l a0c Q h = Dbody PP [] [(122, [(4, .sc (.int .i64))])] Tryz.f177 [.one (.slice a0p a0l a0c)] (decR [.slc] Q) h := by intros; kernel_rfl
def F_portcullislaw26_lent := G_portcullislaw26_lent
theorem R_portcullislaw26_lent : RunOk PP 177 (W [.slc] [.slc] F_portcullislaw26_lent) := runOk_of (tn) Tryz.func177 (by kernel_rfl) (by kernel_rfl) (E_portcullislaw26_lent)
attribute [irreducible] F_portcullislaw26_lent
def G_portcullisref26_Gate_tells (c0 : OA -> Nat -> Nat -> (Int -> Int -> Int -> OA -> Nat -> Nat -> List Int -> Int -> Int -> H -> Prop) -> H -> Prop) (c1 : Addr -> Int -> (Bool -> H -> Prop) -> H -> Prop) (c2 : Addr -> Int -> (Bool -> Int -> H -> Prop) -> H -> Prop) (b : Addr) (Q : Int -> H -> Prop) (h : H) : Prop := ∃ l m n, hc h (b.add 2) = some (.slice l m n) /\ c0 l m n (fun O P R T U V X Y Z aa => ∀ g o, hnew aa g (vi 0 :: vi 0 :: vi 0 :: .slice none 0 0 :: ints .u8 (zeros 32)) o -> ∀ d i, hnew o d [vi 0, vi 0] i -> hcan i (P_ g 0) 36 /\ ∀ j, j = hwr i (P_ g 0) (vi O :: vi P :: vi R :: .slice T U V :: (ints .u8 X ++ [])) -> hcan j (P_ d 0) 2 /\ ∀ c, c = hwr j (P_ d 0) [vi Y, vi Z] -> ∀ (k : JT), (∀ (a : H), (∃ ab p ac, hc a (b.add 2) = some (.slice ab p ac) /\ if ltI (↑p : Int) 6 then Q 0 a else ∃ q r ad, hc a (b.add 2) = some (.slice q r ad) /\ ∃ s, q = some s /\ (0 : Int) ≤ 5 /\ 5 < (↑r : Int) /\ ∃ t, hc a (s.add 5) = some (.int .u8 t) /\ ∃ u, hc a b = some (.pointer u) /\ ∃ v, u = some v /\ ∃ w, hc a (v.add 1) = some (vi w) /\ if leI w (IntKind.i64.wrap t) then Q 5 a else ∃ ae x af, hc a (b.add 2) = some (.slice ae x af) /\ if ltI (↑x : Int) 7 then Q 0 a else ∃ y z ag, hc a (b.add 2) = some (.slice y z ag) /\ ∃ A, y = some A /\ (0 : Int) ≤ 6 /\ 6 < (↑z : Int) /\ ∃ f, hc a (A.add 6) = some (.int .u8 f) /\ ∃ B, hc a (b.add 1) = some (.pointer B) /\ ∃ C, B = some C /\ c1 C (IntKind.i64.wrap f) (fun ah e => if !ah then Q 13 e else ∃ E, hc e b = some (.pointer E) /\ ∃ F, E = some F /\ ∃ G, hc e (F.add 4) = some (vi G) /\ if leI G (IntKind.i64.wrap f) then Q 13 e else ∃ I, hc e b = some (.pointer I) /\ ∃ J, I = some J /\ c2 J (IntKind.i64.wrap f) (fun ai aj K => if ai then Q 14 K else Q 0 K) e) a) -> k [] a) -> ∃ L, hc c (P_ d 0) = some (vi L) /\ if L != 0 then ∃ M, hc c (P_ d 0) = some (vi M) /\ if M != 6 then ∃ N, hc c (P_ d 0) = some (vi N) /\ Q N c else k [] c else k [] c) h
theorem E_portcullisref26_Gate_tells : ∀ c0 c1 c2 a0 Q h, G_portcullisref26_Gate_tells c0 c1 c2 a0 Q h = Dbody PP [(16, W [.slc] [.ag [Si, Si, Si, .slc, .row .u8 32], .ag [Si, Si]] c0), (89, W [.addr, Ti] [.bool] c1), (209, W [.addr, Ti] [.bool, Ti] c2)] [(7, [])] Tryz.f240 [.addr a0] (decR [Ti] Q) h := by intros; kernel_rfl
def F_portcullisref26_Gate_tells := G_portcullisref26_Gate_tells F_portcullisref11_Parse F_portcullisref12_Ring_Has F_portcullisref10_Revoked
theorem R_portcullisref26_Gate_tells : RunOk PP 240 (W [.addr] [Ti] F_portcullisref26_Gate_tells) := runOk_of (tc R_portcullisref11_Parse (tc R_portcullisref12_Ring_Has (tc R_portcullisref10_Revoked (tn)))) Tryz.func240 (by kernel_rfl) (by kernel_rfl) (E_portcullisref26_Gate_tells _ _ _)
attribute [irreducible] F_portcullisref26_Gate_tells
def G_portcullisref26_Gate_Write (c0 : Addr -> (Int -> H -> Prop) -> H -> Prop) (a : Addr) (m : OA) (b : Nat) (s : Nat) (Q : Int -> H -> Prop) (h : H) : Prop := ∃ c, hc h a = some (.pointer c) /\ ∃ d, c = some d /\ ∃ e, hc h (d.add 11) = some (.bool e) /\ if e then Q 8 h else ∃ f g i, hc h (a.add 2) = some (.slice f g i) /\ ∃ (j : List Value), hsv h m 1 b j /\ pApp h 1 [.int .u8 0] 1 f g i b j fun n o p k => hcan k (a.add 2) 1 /\ ∀ l, l = hwr k (a.add 2) [.slice n o p] -> c0 a (fun q r => Q q r) l
theorem E_portcullisref26_Gate_Write : ∀ c0 a0 a1p a1l a1c Q h, G_portcullisref26_Gate_Write c0 a0 a1p a1l a1c Q h = Dbody PP [(240, W [.addr] [Ti] c0)] [] Tryz.f178 [.addr a0, .one (.slice a1p a1l a1c)] (decR [Ti] Q) h := by intros; kernel_rfl
def F_portcullisref26_Gate_Write := G_portcullisref26_Gate_Write F_portcullisref26_Gate_tells
theorem R_portcullisref26_Gate_Write : RunOk PP 178 (W [.addr, .slc] [Ti] F_portcullisref26_Gate_Write) := runOk_of (tc R_portcullisref26_Gate_tells (tn)) Tryz.func178 (by kernel_rfl) (by kernel_rfl) (E_portcullisref26_Gate_Write _)
attribute [irreducible] F_portcullisref26_Gate_Write
def G_portcullislaw26_pair_write (c0 : Addr -> OA -> Nat -> Nat -> (Int -> H -> Prop) -> H -> Prop) (c1 : OA -> Nat -> Nat -> (OA -> Nat -> Nat -> H -> Prop) -> H -> Prop) (c2 : Addr -> OA -> Nat -> Nat -> (Int -> H -> Prop) -> H -> Prop) (ab : OA) (ac : OA) (o : OA) (a : Nat) (y : Nat) (Q : Bool -> H -> Prop) (h : H) : Prop := ∀ r z, hnew h r [.pointer ab, .pointer ac] z -> c1 o a y (fun d e i A => ∃ B, hc A (P_ r 0) = some (.pointer B) /\ 0 ≤ (↑a : Int) /\ (↑a : Int) ≤ (↑i : Int) /\ ∃ C, B = some C /\ c0 C (subAddr d 0 i 1) ((↑a : Int).toNat - 0) (i - 0) (fun E F => ∃ G, hc F (P_ r 1) = some (.pointer G) /\ ∃ I, G = some I /\ c2 I o a y (fun J j => 0 ≤ (↑a : Int) /\ (↑a : Int) ≤ (↑i : Int) /\ (∃ (K : List Int), hsv j (subAddr d 0 i 1) 1 ((↑a : Int).toNat - 0) (ints .u8 K) /\ ∃ (L : List Int), hsv j o 1 a (ints .u8 L) /\ ∀ (p : JT), (∀ (s : Bool) (f : Int) (m : H), (if ltI f 4 then if s then ∃ M, d = some M /\ 0 ≤ IntKind.i64.wrap ((↑a : Int) + f) /\ IntKind.i64.wrap ((↑a : Int) + f) < (↑e : Int) /\ ∃ N, hc m (M.add ((IntKind.i64.wrap ((↑a : Int) + f)).toNat * 1)) = some (.int .u8 N) /\ p [.dv (.one (.bool (N == IntKind.u8.wrap (IntKind.i64.wrap (161 + f))))), .dv (.one (vi (IntKind.i64.wrap (f + 1))))] m else p [.dv (.one (.bool false)), .dv (.one (vi (IntKind.i64.wrap (f + 1))))] m else ∀ (t : JT), (∀ (b : Int) (k : H), (if ltI b e then ∃ O, d = some O /\ 0 ≤ b /\ b < e /\ ∃ P, hc k (O.add (b.toNat * 1)) = some (.int .u8 P) /\ ∃ u, d = some u /\ 0 ≤ b /\ b < e /\ hcan k (u.add (b.toNat * 1)) 1 /\ ∀ R, R = hwr k (u.add (b.toNat * 1)) [.int .u8 (bits .xor .u8 P 60)] -> t [.dv (.one (vi (IntKind.i64.wrap (b + 1))))] R else if s then Q (E == J) k else Q false k) -> t [.dv (.one (vi b))] k) -> t [.dv (.one (vi 0))] m) -> p [.dv (.one (.bool s)), .dv (.one (vi f))] m) -> p [.dv (.one (.bool ((bytesOf K).toList == (bytesOf L).toList))), .dv (.one (vi 0))] j) /\ ∃ (T : List Int), hsv j o 1 a (ints .u8 T) /\ ∃ (U : List Int), hsv j (subAddr d 0 i 1) 1 ((↑a : Int).toNat - 0) (ints .u8 U) /\ ∀ (q : JT), (∀ (v : Bool) (g : Int) (n : H), (if ltI g 4 then if v then ∃ V, d = some V /\ 0 ≤ IntKind.i64.wrap ((↑a : Int) + g) /\ IntKind.i64.wrap ((↑a : Int) + g) < (↑e : Int) /\ ∃ X, hc n (V.add ((IntKind.i64.wrap ((↑a : Int) + g)).toNat * 1)) = some (.int .u8 X) /\ q [.dv (.one (.bool (X == IntKind.u8.wrap (IntKind.i64.wrap (161 + g))))), .dv (.one (vi (IntKind.i64.wrap (g + 1))))] n else q [.dv (.one (.bool false)), .dv (.one (vi (IntKind.i64.wrap (g + 1))))] n else ∀ (w : JT), (∀ (c : Int) (l : H), (if ltI c e then ∃ Y, d = some Y /\ 0 ≤ c /\ c < e /\ ∃ Z, hc l (Y.add (c.toNat * 1)) = some (.int .u8 Z) /\ ∃ x, d = some x /\ 0 ≤ c /\ c < e /\ hcan l (x.add (c.toNat * 1)) 1 /\ ∀ aa, aa = hwr l (x.add (c.toNat * 1)) [.int .u8 (bits .xor .u8 Z 60)] -> w [.dv (.one (vi (IntKind.i64.wrap (c + 1))))] aa else if v then Q (E == J) l else Q false l) -> w [.dv (.one (vi c))] l) -> w [.dv (.one (vi 0))] n) -> q [.dv (.one (.bool v)), .dv (.one (vi g))] n) -> q [.dv (.one (.bool ((bytesOf U).toList == (bytesOf T).toList))), .dv (.one (vi 0))] j) F) A) z
theorem E_portcullislaw26_pair_write : ∀ c0 c1 c2 a0_0 a0_1 a1p a1l a1c Q h, G_portcullislaw26_pair_write c0 c1 c2 a0_0 a0_1 a1p a1l a1c Q h = Dbody PP [(15, W [.addr, .slc] [Ti] c0), (177, W [.slc] [.slc] c1), (178, W [.addr, .slc] [Ti] c2)] [(506, [(8, .sc (.bool)), (9, .sc (.int .i64))]), (1018, [(10, .sc (.int .i64))])] Tryz.f108 [.agg [.c (.pointer a0_0), .c (.pointer a0_1)], .one (.slice a1p a1l a1c)] (decR [.bool] Q) h := by intros; kernel_rfl
def F_portcullislaw26_pair_write := G_portcullislaw26_pair_write F_stream_Gate_Write F_portcullislaw26_lent F_portcullisref26_Gate_Write
theorem R_portcullislaw26_pair_write : RunOk PP 108 (W [.ag [.ptr, .ptr], .slc] [.bool] F_portcullislaw26_pair_write) := runOk_of (tc R_stream_Gate_Write (tc R_portcullislaw26_lent (tc R_portcullisref26_Gate_Write (tn)))) Tryz.func108 (by kernel_rfl) (by kernel_rfl) (E_portcullislaw26_pair_write _ _ _)
attribute [irreducible] F_portcullislaw26_pair_write
def G_stream_Gate_Reset (c0 : (OA -> H -> Prop) -> H -> Prop) (a : Addr) (Q : H -> Prop) (h : H) : Prop := c0 (fun e c => hcan c (a.add 2) 1 /\ ∀ b, b = hwr c (a.add 2) [.slice none 0 0] -> hcan b (a.add 3) 1 /\ ∀ d, d = hwr b (a.add 3) [.pointer e] -> Q d) h
theorem E_stream_Gate_Reset : ∀ c0 a0 Q h, G_stream_Gate_Reset c0 a0 Q h = Dbody PP [(86, W [] [.ptr] c0)] [] Tryz.f109 [.addr a0] (decR [] Q) h := by intros; kernel_rfl
def F_stream_Gate_Reset := G_stream_Gate_Reset F_sha_New
theorem R_stream_Gate_Reset : RunOk PP 109 (W [.addr] [] F_stream_Gate_Reset) := runOk_of (tc R_sha_New (tn)) Tryz.func109 (by kernel_rfl) (by kernel_rfl) (E_stream_Gate_Reset _)
attribute [irreducible] F_stream_Gate_Reset
def G_portcullisref09_Log_Free (c0 : Addr -> (Int -> H -> Prop) -> H -> Prop) (c1 : Addr -> (Int -> List Int -> Int -> Bool -> Int -> H -> Prop) -> H -> Prop) (a : Addr) (Q : Int -> H -> Prop) (h : H) : Prop := c0 a (fun g b => if ltI g 0 then Q 0 b else ∃ c, hc b a = some (.pointer c) /\ ∃ d, c = some d /\ ∃ e, hc b d = some (vi e) /\ c1 a (fun j k i l m f => hcs f d [vi e] /\ hcs f a [.pointer c] /\ Q (IntKind.i64.wrap (e - i)) f) b) h
theorem E_portcullisref09_Log_Free : ∀ c0 c1 a0 Q h, G_portcullisref09_Log_Free c0 c1 a0 Q h = Dbody PP [(281, W [.addr] [Ti] c0), (282, W [.addr] [.ag [Si, .row .i64 9, Si, .bool, Si]] c1)] [] Tryz.f278 [.addr a0] (decR [Ti] Q) h := by intros; kernel_rfl
def F_portcullisref09_Log_Free := G_portcullisref09_Log_Free F_portcullisref09_Log_Present F_portcullisref09_Log_info
theorem R_portcullisref09_Log_Free : RunOk PP 278 (W [.addr] [Ti] F_portcullisref09_Log_Free) := runOk_of (tc R_portcullisref09_Log_Present (tc R_portcullisref09_Log_info (tn))) Tryz.func278 (by kernel_rfl) (by kernel_rfl) (E_portcullisref09_Log_Free _ _)
attribute [irreducible] F_portcullisref09_Log_Free
def G_portcullisref04_Chip_act (a : Addr) (Q : Bool -> H -> Prop) (h : H) : Prop := ∃ d, hc h (a.add 10) = some (vi d) /\ hcan h (a.add 10) 1 /\ ∀ b, b = hwr h (a.add 10) [vi (IntKind.i64.wrap (d + 1))] -> ∃ e, hc b (a.add 12) = some (vi e) /\ if e == 0 then hcan b (a.add 11) 1 /\ ∀ c, c = hwr b (a.add 11) [.bool true] -> hcan c (a.add 12) 1 /\ ∀ f, f = hwr c (a.add 12) [vi (-1)] -> Q true f else ∃ g, hc b (a.add 12) = some (vi g) /\ if ltI 0 g then ∃ i, hc b (a.add 12) = some (vi i) /\ hcan b (a.add 12) 1 /\ ∀ j, j = hwr b (a.add 12) [vi (IntKind.i64.wrap (i - 1))] -> Q false j else Q false b
theorem E_portcullisref04_Chip_act : ∀ a0 Q h, G_portcullisref04_Chip_act a0 Q h = Dbody PP [] [] Tryz.f286 [.addr a0] (decR [.bool] Q) h := by intros; kernel_rfl
def F_portcullisref04_Chip_act := G_portcullisref04_Chip_act
theorem R_portcullisref04_Chip_act : RunOk PP 286 (W [.addr] [.bool] F_portcullisref04_Chip_act) := runOk_of (tn) Tryz.func286 (by kernel_rfl) (by kernel_rfl) (E_portcullisref04_Chip_act)
attribute [irreducible] F_portcullisref04_Chip_act
def G_portcullisref04_Chip_bits (b : Addr) (c : Int) (Q : Int -> H -> Prop) (h : H) : Prop := ∃ j d k, hc h (b.add 13) = some (.slice j d k) /\ if (↑d : Int) == 0 then Q 0 h else ∃ e f l, hc h (b.add 13) = some (.slice e f l) /\ ∃ m a n, hc h (b.add 13) = some (.slice m a n) /\ (↑a : Int) ≠ 0 /\ ∃ g, e = some g /\ 0 ≤ c.tmod (↑a : Int) /\ c.tmod (↑a : Int) < (↑f : Int) /\ ∃ i, hc h (g.add ((c.tmod (↑a : Int)).toNat * 1)) = some (.int .u8 i) /\ Q i h
theorem E_portcullisref04_Chip_bits : ∀ a0 a1 Q h, G_portcullisref04_Chip_bits a0 a1 Q h = Dbody PP [] [] Tryz.f287 [.addr a0, .one (.int .i64 a1)] (decR [.int .u8] Q) h := by intros; kernel_rfl
def F_portcullisref04_Chip_bits := G_portcullisref04_Chip_bits
theorem R_portcullisref04_Chip_bits : RunOk PP 287 (W [.addr, Ti] [.int .u8] F_portcullisref04_Chip_bits) := runOk_of (tn) Tryz.func287 (by kernel_rfl) (by kernel_rfl) (E_portcullisref04_Chip_bits)
attribute [irreducible] F_portcullisref04_Chip_bits
def G_portcullisref04_Chip_at (a : Addr) (b : Int) (c : Int) (Q : Int -> H -> Prop) (h : H) : Prop := ∃ d, hc h (a.add 11) = some (.bool d) /\ if d then Q 8 h else if ltI b 0 then Q 2 h else ∃ g e i, hc h (a.add 7) = some (.slice g e i) /\ if leI (↑e : Int) b then Q 2 h else if ltI c 0 then Q 2 h else ∃ f, hc h a = some (vi f) /\ if leI f c then Q 2 h else Q 0 h
theorem E_portcullisref04_Chip_at : ∀ a0 a1 a2 Q h, G_portcullisref04_Chip_at a0 a1 a2 Q h = Dbody PP [] [] Tryz.f302 [.addr a0, .one (.int .i64 a1), .one (.int .i64 a2)] (decR [Ti] Q) h := by intros; kernel_rfl
def F_portcullisref04_Chip_at := G_portcullisref04_Chip_at
theorem R_portcullisref04_Chip_at : RunOk PP 302 (W [.addr, Ti, Ti] [Ti] F_portcullisref04_Chip_at) := runOk_of (tn) Tryz.func302 (by kernel_rfl) (by kernel_rfl) (E_portcullisref04_Chip_at)
attribute [irreducible] F_portcullisref04_Chip_at
def G_portcullisref04_Chip_Program (c0 : Addr -> (Bool -> H -> Prop) -> H -> Prop) (c1 : Addr -> Int -> (Int -> H -> Prop) -> H -> Prop) (c2 : Addr -> Int -> Int -> (Int -> H -> Prop) -> H -> Prop) (e : Addr) (d : Int) (b : Int) (U : List Int) (Q : Int -> H -> Prop) (h : H) : Prop := ∀ r s, hnew h r (ints .u8 U ++ []) s -> c2 e d b (fun t u => if t != 0 then Q t u else c0 e (fun v i => ∃ w x V, hc i (e.add 7) = some (.slice w x V) /\ ∃ y, w = some y /\ 0 ≤ d /\ d < (↑x : Int) /\ ∃ z A X, hc i (y.add (d.toNat * 1)) = some (.slice z A X) /\ ∃ B, z = some B /\ 0 ≤ b /\ b < (↑A : Int) /\ ∃ (l : List Int), l.length = 32 /\ hrow i (B.add (b.toNat * 32)) .u8 l /\ ∀ f m, hnew i f (ints .u8 (zeros 32)) m -> hcan m (P_ f 0) 32 /\ ∀ C, C = hwr m (P_ f 0) (ints .u8 l ++ []) -> ∀ (j : JT), (∀ (a : Int) (c : H), (if ltI a 32 then 0 ≤ a /\ a < (↑32 : Int) /\ ∃ n, hc c ((P_ f 0).add (a.toNat * 1)) = some (.int .u8 n) /\ 0 ≤ a /\ a < (↑32 : Int) /\ ∃ o, hc c ((P_ r 0).add (a.toNat * 1)) = some (.int .u8 o) /\ if v then 0 ≤ a /\ a < (↑32 : Int) /\ ∃ k, hc c ((P_ f 0).add (a.toNat * 1)) = some (.int .u8 k) /\ c1 e a (fun Y E => hcs E ((P_ f 0).add (a.toNat * 1)) [.int .u8 k] /\ c1 e a (fun Z g => hcs g ((P_ f 0).add (a.toNat * 1)) [.int .u8 k] /\ ∃ F G aa, hc g (e.add 7) = some (.slice F G aa) /\ ∃ I, F = some I /\ 0 ≤ d /\ d < (↑G : Int) /\ ∃ J K ab, hc g (I.add (d.toNat * 1)) = some (.slice J K ab) /\ ∃ p, J = some p /\ 0 ≤ b /\ b < (↑K : Int) /\ 0 ≤ a /\ a < (↑32 : Int) /\ hcan g ((p.add (b.toNat * 32)).add (a.toNat * 1)) 1 /\ ∀ L, L = hwr g ((p.add (b.toNat * 32)).add (a.toNat * 1)) [.int .u8 (bits .or .u8 (bits .andNot .u8 k Y) (bits .and .u8 (bits .and .u8 n o) Z))] -> j [.dv (.one (vi (IntKind.i64.wrap (a + 1))))] L) E) c else ∃ M N ac, hc c (e.add 7) = some (.slice M N ac) /\ ∃ O, M = some O /\ 0 ≤ d /\ d < (↑N : Int) /\ ∃ P R ad, hc c (O.add (d.toNat * 1)) = some (.slice P R ad) /\ ∃ q, P = some q /\ 0 ≤ b /\ b < (↑R : Int) /\ 0 ≤ a /\ a < (↑32 : Int) /\ hcan c ((q.add (b.toNat * 32)).add (a.toNat * 1)) 1 /\ ∀ T, T = hwr c ((q.add (b.toNat * 32)).add (a.toNat * 1)) [.int .u8 (bits .and .u8 n o)] -> j [.dv (.one (vi (IntKind.i64.wrap (a + 1))))] T else if v then Q 8 c else Q 0 c) -> j [.dv (.one (vi a))] c) -> j [.dv (.one (vi 0))] C) u) s
theorem E_portcullisref04_Chip_Program : ∀ c0 c1 c2 a0 a1 a2 a3_0 Q h, G_portcullisref04_Chip_Program c0 c1 c2 a0 a1 a2 a3_0 Q h = Dbody PP [(286, W [.addr] [.bool] c0), (287, W [.addr, Ti] [.int .u8] c1), (302, W [.addr, Ti, Ti] [Ti] c2)] [(506, [(12, .sc (.int .i64))])] Tryz.f280 [.addr a0, .one (.int .i64 a1), .one (.int .i64 a2), .agg [.row .u8 32 a3_0]] (decR [Ti] Q) h := by intros; kernel_rfl
def F_portcullisref04_Chip_Program := G_portcullisref04_Chip_Program F_portcullisref04_Chip_act F_portcullisref04_Chip_bits F_portcullisref04_Chip_at
theorem R_portcullisref04_Chip_Program : RunOk PP 280 (W [.addr, Ti, Ti, .ag [.row .u8 32]] [Ti] F_portcullisref04_Chip_Program) := runOk_of (tc R_portcullisref04_Chip_act (tc R_portcullisref04_Chip_bits (tc R_portcullisref04_Chip_at (tn)))) Tryz.func280 (by kernel_rfl) (by kernel_rfl) (E_portcullisref04_Chip_Program _ _ _)
attribute [irreducible] F_portcullisref04_Chip_Program
def G_portcullisref09_Log_target (c0 : Addr -> (Int -> H -> Prop) -> H -> Prop) (b : Addr) (Q : Int -> H -> Prop) (h : H) : Prop := c0 b (fun c a => if c == 0 then Q 1 a else Q 0 a) h
theorem E_portcullisref09_Log_target : ∀ c0 a0 Q h, G_portcullisref09_Log_target c0 a0 Q h = Dbody PP [(281, W [.addr] [Ti] c0)] [] Tryz.f304 [.addr a0] (decR [Ti] Q) h := by intros; kernel_rfl
def F_portcullisref09_Log_target := G_portcullisref09_Log_target F_portcullisref09_Log_Present
theorem R_portcullisref09_Log_target : RunOk PP 304 (W [.addr] [Ti] F_portcullisref09_Log_target) := runOk_of (tc R_portcullisref09_Log_Present (tn)) Tryz.func304 (by kernel_rfl) (by kernel_rfl) (E_portcullisref09_Log_target _)
attribute [irreducible] F_portcullisref09_Log_target
def G_portcullisref09_Log_Worn (c0 : Addr -> (Int -> List Int -> Int -> Bool -> Int -> H -> Prop) -> H -> Prop) (c1 : OA -> Nat -> Nat -> (Int -> List Int -> Int -> Bool -> Int -> H -> Prop) -> H -> Prop) (c2 : Addr -> (Int -> H -> Prop) -> H -> Prop) (b : Addr) (Q : Bool -> H -> Prop) (h : H) : Prop := ∃ e, hc h b = some (.pointer e) /\ ∃ f, e = some f /\ ∃ g, hc h (f.add 11) = some (.bool g) /\ if g then Q false h else c2 b (fun c d => ∃ i, hc d b = some (.pointer i) /\ ∃ j, i = some j /\ ∃ k l B, hc d (j.add 7) = some (.slice k l B) /\ ∃ m, k = some m /\ 0 ≤ c /\ c < l /\ ∃ n o p, hc d (m.add (c.toNat * 1)) = some (.slice n o p) /\ c1 n o p (fun K L M C N a => if !C then ∃ q, hc a b = some (.pointer q) /\ ∃ r, q = some r /\ ∃ s t E, hc a (r.add 8) = some (.slice s t E) /\ ∃ u, s = some u /\ 0 ≤ c /\ c < t /\ ∃ v, hc a (u.add (c.toNat * 1)) = some (vi v) /\ ∃ w, hc a b = some (.pointer w) /\ ∃ x, w = some x /\ ∃ y, hc a (x.add 5) = some (vi y) /\ if leI y v then Q true a else c0 b (fun F O P R T G => ∀ (z : Int), z = 4611686018427387904 -> Q (leI z F) G) a else c0 b (fun I U V X Y J => ∀ (A : Int), A = 4611686018427387904 -> Q (leI A I) J) a) d) h
theorem E_portcullisref09_Log_Worn : ∀ c0 c1 c2 a0 Q h, G_portcullisref09_Log_Worn c0 c1 c2 a0 Q h = Dbody PP [(282, W [.addr] [.ag [Si, .row .i64 9, Si, .bool, Si]] c0), (303, W [.slc] [.ag [Si, .row .i64 9, Si, .bool, Si]] c1), (304, W [.addr] [Ti] c2)] [] Tryz.f283 [.addr a0] (decR [.bool] Q) h := by intros; kernel_rfl
def F_portcullisref09_Log_Worn := G_portcullisref09_Log_Worn F_portcullisref09_Log_info F_portcullisref08_Of F_portcullisref09_Log_target
theorem R_portcullisref09_Log_Worn : RunOk PP 283 (W [.addr] [.bool] F_portcullisref09_Log_Worn) := runOk_of (tc R_portcullisref09_Log_info (tc R_portcullisref08_Of (tc R_portcullisref09_Log_target (tn)))) Tryz.func283 (by kernel_rfl) (by kernel_rfl) (E_portcullisref09_Log_Worn _ _ _)
attribute [irreducible] F_portcullisref09_Log_Worn
def G_portcullisref04_Chip_Erase (c0 : Addr -> (Bool -> H -> Prop) -> H -> Prop) (c1 : Addr -> Int -> (Int -> H -> Prop) -> H -> Prop) (c2 : Addr -> Int -> Int -> (Int -> H -> Prop) -> H -> Prop) (d : Addr) (a : Int) (Q : Int -> H -> Prop) (h : H) : Prop := c2 d a 0 (fun y g => if y != 0 then Q y g else ∃ z A ac, hc g (d.add 8) = some (.slice z A ac) /\ ∃ B, z = some B /\ 0 ≤ a /\ a < (↑A : Int) /\ ∃ C, hc g (B.add (a.toNat * 1)) = some (vi C) /\ ∃ E, hc g (d.add 5) = some (vi E) /\ if leI E C then Q 9 g else c0 d (fun F j => ∃ l m ad, hc j (d.add 8) = some (.slice l m ad) /\ ∃ G, l = some G /\ 0 ≤ a /\ a < (↑m : Int) /\ ∃ I, hc j (G.add (a.toNat * 1)) = some (vi I) /\ ∃ n, l = some n /\ 0 ≤ a /\ a < (↑m : Int) /\ hcan j (n.add (a.toNat * 1)) 1 /\ ∀ J, J = hwr j (n.add (a.toNat * 1)) [vi (IntKind.i64.wrap (I + 1))] -> ∀ (o : JT), (∀ (c : Int) (i : H), (∃ K, hc i d = some (vi K) /\ if ltI c K then ∀ (k : JT), (∀ (b : Int) (e : H), (if ltI b 32 then if F then ∃ p q L, hc e (d.add 7) = some (.slice p q L) /\ ∃ r, p = some r /\ 0 ≤ a /\ a < (↑q : Int) /\ ∃ s t M, hc e (r.add (a.toNat * 1)) = some (.slice s t M) /\ ∃ u, s = some u /\ 0 ≤ c /\ c < t /\ 0 ≤ b /\ b < (↑32 : Int) /\ ∃ v, hc e ((u.add (c.toNat * 32)).add (b.toNat * 1)) = some (.int .u8 v) /\ c1 d (IntKind.i64.wrap (IntKind.i64.wrap (32 * c) + b)) (fun ae f => hcs f ((u.add (c.toNat * 32)).add (b.toNat * 1)) [.int .u8 v] /\ hcs f (r.add (a.toNat * 1)) [.slice s t M] /\ hcs f (d.add 7) [.slice p q L] /\ ∃ N O af, hc f (d.add 7) = some (.slice N O af) /\ ∃ P, N = some P /\ 0 ≤ a /\ a < (↑O : Int) /\ ∃ R T ag, hc f (P.add (a.toNat * 1)) = some (.slice R T ag) /\ ∃ w, R = some w /\ 0 ≤ c /\ c < T /\ 0 ≤ b /\ b < (↑32 : Int) /\ hcan f ((w.add (c.toNat * 32)).add (b.toNat * 1)) 1 /\ ∀ U, U = hwr f ((w.add (c.toNat * 32)).add (b.toNat * 1)) [.int .u8 (bits .or .u8 v ae)] -> k [.dv (.one (vi (IntKind.i64.wrap (b + 1))))] U) e else ∃ V X ah, hc e (d.add 7) = some (.slice V X ah) /\ ∃ Y, V = some Y /\ 0 ≤ a /\ a < (↑X : Int) /\ ∃ Z aa ai, hc e (Y.add (a.toNat * 1)) = some (.slice Z aa ai) /\ ∃ x, Z = some x /\ 0 ≤ c /\ c < aa /\ 0 ≤ b /\ b < (↑32 : Int) /\ hcan e ((x.add (c.toNat * 32)).add (b.toNat * 1)) 1 /\ ∀ ab, ab = hwr e ((x.add (c.toNat * 32)).add (b.toNat * 1)) [.int .u8 255] -> k [.dv (.one (vi (IntKind.i64.wrap (b + 1))))] ab else o [.dv (.one (vi (IntKind.i64.wrap (c + 1))))] e) -> k [.dv (.one (vi b))] e) -> k [.dv (.one (vi 0))] i else if F then Q 8 i else Q 0 i) -> o [.dv (.one (vi c))] i) -> o [.dv (.one (vi 0))] J) g) h
theorem E_portcullisref04_Chip_Erase : ∀ c0 c1 c2 a0 a1 Q h, G_portcullisref04_Chip_Erase c0 c1 c2 a0 a1 Q h = Dbody PP [(286, W [.addr] [.bool] c0), (287, W [.addr, Ti] [.int .u8] c1), (302, W [.addr, Ti, Ti] [Ti] c2)] [(1018, [(7, .sc (.int .i64))]), (65170, [(8, .sc (.int .i64))])] Tryz.f291 [.addr a0, .one (.int .i64 a1)] (decR [Ti] Q) h := by intros; kernel_rfl
def F_portcullisref04_Chip_Erase := G_portcullisref04_Chip_Erase F_portcullisref04_Chip_act F_portcullisref04_Chip_bits F_portcullisref04_Chip_at
theorem R_portcullisref04_Chip_Erase : RunOk PP 291 (W [.addr, Ti] [Ti] F_portcullisref04_Chip_Erase) := runOk_of (tc R_portcullisref04_Chip_act (tc R_portcullisref04_Chip_bits (tc R_portcullisref04_Chip_at (tn)))) Tryz.func291 (by kernel_rfl) (by kernel_rfl) (E_portcullisref04_Chip_Erase _ _ _)
attribute [irreducible] F_portcullisref04_Chip_Erase
def G_portcullisref09_Log_turn (c0 : Int -> Int -> (List Int -> Int -> H -> Prop) -> H -> Prop) (c1 : Addr -> Int -> Int -> List Int -> (Int -> H -> Prop) -> H -> Prop) (c2 : Addr -> (Int -> List Int -> Int -> Bool -> Int -> H -> Prop) -> H -> Prop) (c3 : Addr -> Int -> (Int -> H -> Prop) -> H -> Prop) (c4 : OA -> Nat -> Nat -> (Int -> List Int -> Int -> Bool -> Int -> H -> Prop) -> H -> Prop) (c5 : Addr -> (Int -> H -> Prop) -> H -> Prop) (c6 : Int -> (List Int -> Int -> H -> Prop) -> H -> Prop) (d : Addr) (g : Int) (aa : Int) (Q : Int -> H -> Prop) (h : H) : Prop := c5 d (fun e ab => c2 d (fun ac ad ae af ag ah => ∀ c o, hnew ah c (vi 0 :: (ints .i64 (zeros 9) ++ [vi 0, .bool false, vi 0])) o -> hcan o (P_ c 0) 13 /\ ∀ f, f = hwr o (P_ c 0) (vi ac :: (ints .i64 ad ++ [vi ae, .bool af, vi ag])) -> ∃ w, hc f d = some (.pointer w) /\ ∃ x, w = some x /\ ∃ y z ai, hc f (x.add 7) = some (.slice y z ai) /\ ∃ A, y = some A /\ 0 ≤ e /\ e < z /\ ∃ B C E, hc f (A.add (e.toNat * 1)) = some (.slice B C E) /\ c4 B C E (fun aq ar au aj av p => ∀ (q : JT), (∀ (r : H), (0 ≤ g /\ g < (↑9 : Int) /\ hcan r (((P_ c 0).add 1).add (g.toNat * 1)) 1 /\ ∀ F, F = hwr r (((P_ c 0).add 1).add (g.toNat * 1)) [vi aa] -> ∀ (i : JT), (∀ (j a : Int) (b : H), (∃ G, hc b d = some (.pointer G) /\ ∃ I, G = some I /\ ∃ J, hc b (I.add 1) = some (vi J) /\ if leI a J then 0 ≤ a /\ a < (↑9 : Int) /\ ∃ K, hc b (((P_ c 0).add 1).add (a.toNat * 1)) = some (vi K) /\ if K == 0 then i [.dv (.one (vi j)), .dv (.one (vi (IntKind.i64.wrap (a + 1))))] b else 0 ≤ a /\ a < (↑9 : Int) /\ ∃ L, hc b (((P_ c 0).add 1).add (a.toNat * 1)) = some (vi L) /\ c0 a L (fun ak aw al => ∀ k s, hnew al k (ints .u8 (zeros 32)) s -> hcan s (P_ k 0) 32 /\ ∀ l, l = hwr s (P_ k 0) (ints .u8 ak ++ []) -> ∃ M, hc l d = some (.pointer M) /\ ∃ (t : List Int), t.length = 32 /\ hrow l (P_ k 0) .u8 t /\ ∃ N, M = some N /\ c1 N e j t (fun O P => if O != 0 then Q O P else i [.dv (.one (vi (IntKind.i64.wrap (j + 1)))), .dv (.one (vi (IntKind.i64.wrap (a + 1))))] P) l) b else ∃ R, hc b (P_ c 0) = some (vi R) /\ c6 (IntKind.i64.wrap (R + 1)) (fun am ax an => ∀ m u, hnew an m (ints .u8 (zeros 32)) u -> hcan u (P_ m 0) 32 /\ ∀ n, n = hwr u (P_ m 0) (ints .u8 am ++ []) -> ∃ T, hc n d = some (.pointer T) /\ ∃ (v : List Int), v.length = 32 /\ hrow n (P_ m 0) .u8 v /\ ∃ U, T = some U /\ c1 U e 0 v (fun ao ap => Q ao ap) n) b) -> i [.dv (.one (vi j)), .dv (.one (vi a))] b) -> i [.dv (.one (vi 1)), .dv (.one (vi 0))] F) -> q [] r) -> if !aj then ∃ V, hc p d = some (.pointer V) /\ ∃ X, V = some X /\ c3 X e (fun Y Z => if Y != 0 then Q Y Z else q [] Z) p else q [] p) f) ab) h
theorem E_portcullisref09_Log_turn : ∀ c0 c1 c2 c3 c4 c5 c6 a0 a1 a2 Q h, G_portcullisref09_Log_turn c0 c1 c2 c3 c4 c5 c6 a0 a1 a2 Q h = Dbody PP [(279, W [Ti, Ti] [.ag [.row .u8 32], Ti] c0), (280, W [.addr, Ti, Ti, .ag [.row .u8 32]] [Ti] c1), (282, W [.addr] [.ag [Si, .row .i64 9, Si, .bool, Si]] c2), (291, W [.addr, Ti] [Ti] c3), (303, W [.slc] [.ag [Si, .row .i64 9, Si, .bool, Si]] c4), (304, W [.addr] [Ti] c5), (305, W [Ti] [.ag [.row .u8 32], Ti] c6)] [(31, []), (2042, [(11, .sc (.int .i64)), (12, .sc (.int .i64))])] Tryz.f284 [.addr a0, .one (.int .i64 a1), .one (.int .i64 a2)] (decR [Ti] Q) h := by intros; kernel_rfl
def F_portcullisref09_Log_turn := G_portcullisref09_Log_turn F_portcullisref06_Value F_portcullisref04_Chip_Program F_portcullisref09_Log_info F_portcullisref04_Chip_Erase F_portcullisref08_Of F_portcullisref09_Log_target F_portcullisref06_Head
theorem R_portcullisref09_Log_turn : RunOk PP 284 (W [.addr, Ti, Ti] [Ti] F_portcullisref09_Log_turn) := runOk_of (tc R_portcullisref06_Value (tc R_portcullisref04_Chip_Program (tc R_portcullisref09_Log_info (tc R_portcullisref04_Chip_Erase (tc R_portcullisref08_Of (tc R_portcullisref09_Log_target (tc R_portcullisref06_Head (tn)))))))) Tryz.func284 (by kernel_rfl) (by kernel_rfl) (E_portcullisref09_Log_turn _ _ _ _ _ _ _)
attribute [irreducible] F_portcullisref09_Log_turn
def G_portcullisref09_Log_Lay (c0 : Addr -> Int -> (Int -> Int -> H -> Prop) -> H -> Prop) (c1 : Addr -> (Int -> H -> Prop) -> H -> Prop) (c2 : Int -> Int -> (List Int -> Int -> H -> Prop) -> H -> Prop) (c3 : Addr -> Int -> Int -> List Int -> (Int -> H -> Prop) -> H -> Prop) (c4 : Addr -> (Int -> H -> Prop) -> H -> Prop) (c5 : Addr -> (Int -> List Int -> Int -> Bool -> Int -> H -> Prop) -> H -> Prop) (c6 : Addr -> (Bool -> H -> Prop) -> H -> Prop) (c7 : Addr -> Int -> Int -> (Int -> H -> Prop) -> H -> Prop) (a : Addr) (i : Int) (c : Int) (Q : Int -> H -> Prop) (h : H) : Prop := c0 a i (fun t n e => if n != 0 then Q n e else ∀ (o : JT), (∀ (j : H), (if leI c t then Q 11 j else c1 a (fun u p => if ltI 0 u then c2 i c (fun v F w => ∀ b k, hnew w b (ints .u8 (zeros 32)) k -> hcan k (P_ b 0) 32 /\ ∀ f, f = hwr k (P_ b 0) (ints .u8 v ++ []) -> ∃ g, hc f a = some (.pointer g) /\ ∃ (d : List Int), d.length = 32 /\ hrow f (P_ b 0) .u8 d /\ c4 a (fun x l => hcs l (P_ b 0) (ints .u8 d ++ []) /\ hcs l a [.pointer g] /\ c5 a (fun G I y J K m => hcs m (P_ b 0) (ints .u8 d ++ []) /\ hcs m a [.pointer g] /\ ∃ q, g = some q /\ c3 q x y d (fun z A => Q z A) m) l) f) p else c6 a (fun B r => if B then Q 9 r else c7 a i c (fun C E => Q C E) r) p) j) -> o [] j) -> if ltI c 1 then Q 2 e else ∀ (s : Int), s = 4611686018427387904 -> if ltI s c then Q 2 e else o [] e) h
theorem E_portcullisref09_Log_Lay : ∀ c0 c1 c2 c3 c4 c5 c6 c7 a0 a1 a2 Q h, G_portcullisref09_Log_Lay c0 c1 c2 c3 c4 c5 c6 c7 a0 a1 a2 Q h = Dbody PP [(276, W [.addr, Ti] [Ti, Ti] c0), (278, W [.addr] [Ti] c1), (279, W [Ti, Ti] [.ag [.row .u8 32], Ti] c2), (280, W [.addr, Ti, Ti, .ag [.row .u8 32]] [Ti] c3), (281, W [.addr] [Ti] c4), (282, W [.addr] [.ag [Si, .row .i64 9, Si, .bool, Si]] c5), (283, W [.addr] [.bool] c6), (284, W [.addr, Ti, Ti] [Ti] c7)] [(15, [])] Tryz.f244 [.addr a0, .one (.int .i64 a1), .one (.int .i64 a2)] (decR [Ti] Q) h := by intros; kernel_rfl
def F_portcullisref09_Log_Lay := G_portcullisref09_Log_Lay F_portcullisref09_Log_Number F_portcullisref09_Log_Free F_portcullisref06_Value F_portcullisref04_Chip_Program F_portcullisref09_Log_Present F_portcullisref09_Log_info F_portcullisref09_Log_Worn F_portcullisref09_Log_turn
theorem R_portcullisref09_Log_Lay : RunOk PP 244 (W [.addr, Ti, Ti] [Ti] F_portcullisref09_Log_Lay) := runOk_of (tc R_portcullisref09_Log_Number (tc R_portcullisref09_Log_Free (tc R_portcullisref06_Value (tc R_portcullisref04_Chip_Program (tc R_portcullisref09_Log_Present (tc R_portcullisref09_Log_info (tc R_portcullisref09_Log_Worn (tc R_portcullisref09_Log_turn (tn))))))))) Tryz.func244 (by kernel_rfl) (by kernel_rfl) (E_portcullisref09_Log_Lay _ _ _ _ _ _ _ _)
attribute [irreducible] F_portcullisref09_Log_Lay
def G_portcullisref09_Lay (c0 : Addr -> Int -> Int -> (Int -> H -> Prop) -> H -> Prop) (c : Addr) (d : Int) (e : Int) (Q : Int -> H -> Prop) (h : H) : Prop := ∀ a b, hnew h a [.pointer (some c)] b -> c0 (P_ a 0) d e (fun f g => Q f g) b
theorem E_portcullisref09_Lay : ∀ c0 a0 a1 a2 Q h, G_portcullisref09_Lay c0 a0 a1 a2 Q h = Dbody PP [(244, W [.addr, Ti, Ti] [Ti] c0)] [] Tryz.f180 [.addr a0, .one (.int .i64 a1), .one (.int .i64 a2)] (decR [Ti] Q) h := by intros; kernel_rfl
def F_portcullisref09_Lay := G_portcullisref09_Lay F_portcullisref09_Log_Lay
theorem R_portcullisref09_Lay : RunOk PP 180 (W [.addr, Ti, Ti] [Ti] F_portcullisref09_Lay) := runOk_of (tc R_portcullisref09_Log_Lay (tn)) Tryz.func180 (by kernel_rfl) (by kernel_rfl) (E_portcullisref09_Lay _)
attribute [irreducible] F_portcullisref09_Lay
def G_portcullisref04_Chip_fuse (a : Addr) (b : Int) (Q : Int -> H -> Prop) (h : H) : Prop := ∃ c, hc h (a.add 11) = some (.bool c) /\ if c then Q 8 h else if ltI b 0 then Q 2 h else ∃ e d f, hc h (a.add 9) = some (.slice e d f) /\ if leI (↑d : Int) b then Q 2 h else Q 0 h
theorem E_portcullisref04_Chip_fuse : ∀ a0 a1 Q h, G_portcullisref04_Chip_fuse a0 a1 Q h = Dbody PP [] [] Tryz.f285 [.addr a0, .one (.int .i64 a1)] (decR [Ti] Q) h := by intros; kernel_rfl
def F_portcullisref04_Chip_fuse := G_portcullisref04_Chip_fuse
theorem R_portcullisref04_Chip_fuse : RunOk PP 285 (W [.addr, Ti] [Ti] F_portcullisref04_Chip_fuse) := runOk_of (tn) Tryz.func285 (by kernel_rfl) (by kernel_rfl) (E_portcullisref04_Chip_fuse)
attribute [irreducible] F_portcullisref04_Chip_fuse
def G_portcullisref04_Chip_Blow (c0 : Addr -> Int -> (Int -> H -> Prop) -> H -> Prop) (c1 : Addr -> (Bool -> H -> Prop) -> H -> Prop) (c2 : Addr -> Int -> (Int -> H -> Prop) -> H -> Prop) (c : Addr) (a : Int) (Q : Int -> H -> Prop) (h : H) : Prop := c0 c a (fun o p => if o != 0 then Q o p else c1 c (fun f b => ∃ d e q, hc b (c.add 9) = some (.slice d e q) /\ ∃ r s v, hc b (c.add 9) = some (.slice r s v) /\ ∃ t, r = some t /\ 0 ≤ a /\ a < (↑s : Int) /\ ∃ u, hc b (t.add (a.toNat * 1)) = some (.bool u) /\ if u then ∃ g, d = some g /\ 0 ≤ a /\ a < (↑e : Int) /\ hcan b (g.add (a.toNat * 1)) 1 /\ ∀ i, i = hwr b (g.add (a.toNat * 1)) [.bool true] -> if f then Q 8 i else Q 0 i else if !f then ∃ j, d = some j /\ 0 ≤ a /\ a < (↑e : Int) /\ hcan b (j.add (a.toNat * 1)) 1 /\ ∀ k, k = hwr b (j.add (a.toNat * 1)) [.bool true] -> if f then Q 8 k else Q 0 k else c2 c 0 (fun w l => hcs l (c.add 9) [.slice d e q] /\ ∃ m, d = some m /\ 0 ≤ a /\ a < (↑e : Int) /\ hcan l (m.add (a.toNat * 1)) 1 /\ ∀ n, n = hwr l (m.add (a.toNat * 1)) [.bool (bits .and .u8 w 1 == 1)] -> if f then Q 8 n else Q 0 n) b) p) h
theorem E_portcullisref04_Chip_Blow : ∀ c0 c1 c2 a0 a1 Q h, G_portcullisref04_Chip_Blow c0 c1 c2 a0 a1 Q h = Dbody PP [(285, W [.addr, Ti] [Ti] c0), (286, W [.addr] [.bool] c1), (287, W [.addr, Ti] [.int .u8] c2)] [] Tryz.f245 [.addr a0, .one (.int .i64 a1)] (decR [Ti] Q) h := by intros; kernel_rfl
def F_portcullisref04_Chip_Blow := G_portcullisref04_Chip_Blow F_portcullisref04_Chip_fuse F_portcullisref04_Chip_act F_portcullisref04_Chip_bits
theorem R_portcullisref04_Chip_Blow : RunOk PP 245 (W [.addr, Ti] [Ti] F_portcullisref04_Chip_Blow) := runOk_of (tc R_portcullisref04_Chip_fuse (tc R_portcullisref04_Chip_act (tc R_portcullisref04_Chip_bits (tn)))) Tryz.func245 (by kernel_rfl) (by kernel_rfl) (E_portcullisref04_Chip_Blow _ _ _)
attribute [irreducible] F_portcullisref04_Chip_Blow
def G_portcullisref07_Raise (c0 : Addr -> Int -> (Int -> Int -> H -> Prop) -> H -> Prop) (c1 : Addr -> Int -> (Int -> H -> Prop) -> H -> Prop) (b : Addr) (f : Int) (m : Int) (Q : Int -> H -> Prop) (h : H) : Prop := c0 b f (fun y n g => ∀ (i : JT), (∀ (o : Int) (p : H), (∀ (j : JT), (∀ (k d a : Int) (e : H), (∀ (q : JT), (∀ (c : H), (∃ r s z, hc c (b.add 9) = some (.slice r s z) /\ ∃ l, hc c (b.add 2) = some (vi l) /\ ∃ t, r = some t /\ 0 ≤ IntKind.i64.wrap (IntKind.i64.wrap (f * l) + a) /\ IntKind.i64.wrap (IntKind.i64.wrap (f * l) + a) < (↑s : Int) /\ ∃ u, hc c (t.add ((IntKind.i64.wrap (IntKind.i64.wrap (f * l) + a)).toNat * 1)) = some (.bool u) /\ if !u then ∃ v, hc c (b.add 2) = some (vi v) /\ c1 b (IntKind.i64.wrap (IntKind.i64.wrap (f * v) + a)) (fun A B => j [.dv (.one (vi (IntKind.i64.wrap (k + 1)))), .dv (.one (vi A)), .dv (.one (vi (IntKind.i64.wrap (a + 1))))] B) c else j [.dv (.one (vi k)), .dv (.one (vi d)), .dv (.one (vi (IntKind.i64.wrap (a + 1))))] c) -> q [] c) -> ∃ w, hc e (b.add 2) = some (vi w) /\ if ltI a w then if ltI k m then if d == 0 then q [] e else Q d e else Q d e else Q d e) -> j [.dv (.one (vi k)), .dv (.one (vi d)), .dv (.one (vi a))] e) -> j [.dv (.one (vi y)), .dv (.one (vi o)), .dv (.one (vi 0))] p) -> i [.dv (.one (vi o))] p) -> if n == 0 then if ltI m 0 then i [.dv (.one (vi 2))] g else ∃ x, hc g (b.add 2) = some (vi x) /\ if ltI x m then i [.dv (.one (vi 2))] g else i [.dv (.one (vi n))] g else i [.dv (.one (vi n))] g) h
theorem E_portcullisref07_Raise : ∀ c0 c1 a0 a1 a2 Q h, G_portcullisref07_Raise c0 c1 a0 a1 a2 Q h = Dbody PP [(243, W [.addr, Ti] [Ti, Ti] c0), (245, W [.addr, Ti] [Ti] c1)] [(7, [(8, .sc (.int .i64))]), (122, [(7, .sc (.int .i64)), (8, .sc (.int .i64)), (9, .sc (.int .i64))]), (244, [])] Tryz.f181 [.addr a0, .one (.int .i64 a1), .one (.int .i64 a2)] (decR [Ti] Q) h := by intros; kernel_rfl
def F_portcullisref07_Raise := G_portcullisref07_Raise F_portcullisref07_Count F_portcullisref04_Chip_Blow
theorem R_portcullisref07_Raise : RunOk PP 181 (W [.addr, Ti, Ti] [Ti] F_portcullisref07_Raise) := runOk_of (tc R_portcullisref07_Count (tc R_portcullisref04_Chip_Blow (tn))) Tryz.func181 (by kernel_rfl) (by kernel_rfl) (E_portcullisref07_Raise _ _)
attribute [irreducible] F_portcullisref07_Raise
def G_portcullisref10_BumpTo (c0 : Int -> Int -> Int -> Int -> Int -> Int -> Int -> (Int -> H -> Prop) -> H -> Prop) (c1 : Addr -> Int -> (Int -> Int -> H -> Prop) -> H -> Prop) (c2 : Addr -> Int -> Int -> (Int -> H -> Prop) -> H -> Prop) (c3 : Addr -> Int -> Int -> (Int -> H -> Prop) -> H -> Prop) (a : Addr) (d : Int) (c : Int) (Q : Int -> H -> Prop) (h : H) : Prop := c1 a d (fun r g b => if g != 0 then Q g b else if ltI c 0 then Q 2 b else if leI c r then Q 0 b else ∃ i, hc b a = some (vi i) /\ ∃ j, hc b (a.add 1) = some (vi j) /\ ∃ k, hc b (a.add 2) = some (vi k) /\ ∃ l, hc b (a.add 3) = some (vi l) /\ ∃ m, hc b (a.add 4) = some (vi m) /\ ∃ n, hc b (a.add 5) = some (vi n) /\ ∃ o, hc b (a.add 6) = some (vi o) /\ c0 i j k l m n o (fun s p => if ltI s c then Q 10 p else c2 a d c (fun q e => if q != 0 then Q q e else ∃ f, hc e (a.add 3) = some (vi f) /\ f ≠ 0 /\ c3 a d (IntKind.i64.wrap (c.tdiv f)) (fun t u => Q t u) e) p) b) h
theorem E_portcullisref10_BumpTo : ∀ c0 c1 c2 c3 a0 a1 a2 Q h, G_portcullisref10_BumpTo c0 c1 c2 c3 a0 a1 a2 Q h = Dbody PP [(106, W [.ag [Si, Si, Si, Si, Si, Si, Si]] [Ti] c0), (179, W [.addr, Ti] [Ti, Ti] c1), (180, W [.addr, Ti, Ti] [Ti] c2), (181, W [.addr, Ti, Ti] [Ti] c3)] [] Tryz.f110 [.addr a0, .one (.int .i64 a1), .one (.int .i64 a2)] (decR [Ti] Q) h := by intros; kernel_rfl
def F_portcullisref10_BumpTo := G_portcullisref10_BumpTo F_portcullisref10_Last F_portcullisref10_Read F_portcullisref09_Lay F_portcullisref07_Raise
theorem R_portcullisref10_BumpTo : RunOk PP 110 (W [.addr, Ti, Ti] [Ti] F_portcullisref10_BumpTo) := runOk_of (tc R_portcullisref10_Last (tc R_portcullisref10_Read (tc R_portcullisref09_Lay (tc R_portcullisref07_Raise (tn))))) Tryz.func110 (by kernel_rfl) (by kernel_rfl) (E_portcullisref10_BumpTo _ _ _ _)
attribute [irreducible] F_portcullisref10_BumpTo
def G_portcullisref07_Revoke (c0 : Addr -> Int -> (Int -> H -> Prop) -> H -> Prop) (c1 : Addr -> Int -> (Bool -> Int -> H -> Prop) -> H -> Prop) (b : Addr) (d : Int) (Q : Int -> H -> Prop) (h : H) : Prop := c1 b d (fun g c a => if c != 0 then Q c a else if g then Q c a else ∃ e, hc a (b.add 1) = some (vi e) /\ ∃ f, hc a (b.add 2) = some (vi f) /\ c0 b (IntKind.i64.wrap (IntKind.i64.wrap (e * f) + d)) (fun i j => Q i j) a) h
theorem E_portcullisref07_Revoke : ∀ c0 c1 a0 a1 Q h, G_portcullisref07_Revoke c0 c1 a0 a1 Q h = Dbody PP [(245, W [.addr, Ti] [Ti] c0), (246, W [.addr, Ti] [.bool, Ti] c1)] [] Tryz.f182 [.addr a0, .one (.int .i64 a1)] (decR [Ti] Q) h := by intros; kernel_rfl
def F_portcullisref07_Revoke := G_portcullisref07_Revoke F_portcullisref04_Chip_Blow F_portcullisref07_Revoked
theorem R_portcullisref07_Revoke : RunOk PP 182 (W [.addr, Ti] [Ti] F_portcullisref07_Revoke) := runOk_of (tc R_portcullisref04_Chip_Blow (tc R_portcullisref07_Revoked (tn))) Tryz.func182 (by kernel_rfl) (by kernel_rfl) (E_portcullisref07_Revoke _ _)
attribute [irreducible] F_portcullisref07_Revoke
def G_portcullisref10_Revoke (c0 : Addr -> Int -> (Int -> H -> Prop) -> H -> Prop) (a : Addr) (b : Int) (Q : Int -> H -> Prop) (h : H) : Prop := c0 a b (fun c d => Q c d) h
theorem E_portcullisref10_Revoke : ∀ c0 a0 a1 Q h, G_portcullisref10_Revoke c0 a0 a1 Q h = Dbody PP [(182, W [.addr, Ti] [Ti] c0)] [] Tryz.f111 [.addr a0, .one (.int .i64 a1)] (decR [Ti] Q) h := by intros; kernel_rfl
def F_portcullisref10_Revoke := G_portcullisref10_Revoke F_portcullisref07_Revoke
theorem R_portcullisref10_Revoke : RunOk PP 111 (W [.addr, Ti] [Ti] F_portcullisref10_Revoke) := runOk_of (tc R_portcullisref07_Revoke (tn)) Tryz.func111 (by kernel_rfl) (by kernel_rfl) (E_portcullisref10_Revoke _)
attribute [irreducible] F_portcullisref10_Revoke
def G_portcullisref04_Chip_Cut (a : Addr) (c : Int) (k : OA) (d : Nat) (o : Nat) (Q : H -> Prop) (h : H) : Prop := hcan h (a.add 12) 1 /\ ∀ e, e = hwr h (a.add 12) [vi (if c > -1 then c else -1)] -> ∀ f b, hnew e f [] b -> ∃ (g : List Value), hsv b k 1 d g /\ pApp b 1 [.int .u8 0] 1 (some (P_ f 0)) 0 0 d g fun l m n i => hcan i (a.add 13) 1 /\ ∀ j, j = hwr i (a.add 13) [.slice l m n] -> Q j
theorem E_portcullisref04_Chip_Cut : ∀ a0 a1 a2p a2l a2c Q h, G_portcullisref04_Chip_Cut a0 a1 a2p a2l a2c Q h = Dbody PP [] [] Tryz.f112 [.addr a0, .one (.int .i64 a1), .one (.slice a2p a2l a2c)] (decR [] Q) h := by intros; kernel_rfl
def F_portcullisref04_Chip_Cut := G_portcullisref04_Chip_Cut
theorem R_portcullisref04_Chip_Cut : RunOk PP 112 (W [.addr, Ti, .slc] [] F_portcullisref04_Chip_Cut) := runOk_of (tn) Tryz.func112 (by kernel_rfl) (by kernel_rfl) (E_portcullisref04_Chip_Cut)
attribute [irreducible] F_portcullisref04_Chip_Cut
def G_portcullisref04_Chip_Restore (a : Addr) (Q : H -> Prop) (h : H) : Prop := hcan h (a.add 11) 1 /\ ∀ b, b = hwr h (a.add 11) [.bool false] -> Q b
theorem E_portcullisref04_Chip_Restore : ∀ a0 Q h, G_portcullisref04_Chip_Restore a0 Q h = Dbody PP [] [] Tryz.f113 [.addr a0] (decR [] Q) h := by intros; kernel_rfl
def F_portcullisref04_Chip_Restore := G_portcullisref04_Chip_Restore
theorem R_portcullisref04_Chip_Restore : RunOk PP 113 (W [.addr] [] F_portcullisref04_Chip_Restore) := runOk_of (tn) Tryz.func113 (by kernel_rfl) (by kernel_rfl) (E_portcullisref04_Chip_Restore)
attribute [irreducible] F_portcullisref04_Chip_Restore
def G_portcullislaw26_world_step (c0 : Addr -> Int -> (Int -> H -> Prop) -> H -> Prop) (c1 : Addr -> (List Int -> H -> Prop) -> H -> Prop) (c2 : Addr -> Int -> Int -> (Int -> H -> Prop) -> H -> Prop) (c3 : OA -> OA -> (Bool -> H -> Prop) -> H -> Prop) (c4 : Addr -> (List Int -> H -> Prop) -> H -> Prop) (c5 : Addr -> Int -> OA -> Nat -> Nat -> (H -> Prop) -> H -> Prop) (c6 : Addr -> (H -> Prop) -> H -> Prop) (c7 : OA -> OA -> OA -> Nat -> Nat -> (Bool -> H -> Prop) -> H -> Prop) (c8 : Addr -> (H -> Prop) -> H -> Prop) (c9 : Addr -> Int -> Int -> (Int -> H -> Prop) -> H -> Prop) (c10 : Addr -> Int -> (Int -> H -> Prop) -> H -> Prop) (c11 : Addr -> Int -> OA -> Nat -> Nat -> (H -> Prop) -> H -> Prop) (c12 : Addr -> (H -> Prop) -> H -> Prop) (b : Addr) (aw : Int) (ax : Int) (ay : Int) (az : OA) (a1 : Nat) (a2 : Nat) (Q : Bool -> H -> Prop) (h : H) : Prop := ∀ c a, hnew h c [vi aw, vi ax, vi ay, .slice az a1 a2] a -> ∃ d, hc a (P_ c 0) = some (vi d) /\ if d == 1 then ∃ p, hc a (b.add 5) = some (.pointer p) /\ ∃ q, hc a (b.add 6) = some (.pointer q) /\ ∃ r s t, hc a (P_ c 3) = some (.slice r s t) /\ c7 p q r s t (fun a3 a4 => Q a3 a4) a else if d == 2 then ∃ u, hc a (b.add 5) = some (.pointer u) /\ ∃ v, hc a (b.add 6) = some (.pointer v) /\ c3 u v (fun a5 a6 => Q a5 a6) a else if d == 3 then ∃ w, hc a (b.add 5) = some (.pointer w) /\ ∃ x, w = some x /\ c1 x (fun a7 a8 => ∀ e k, hnew a8 e (ints .u8 (zeros 32)) k -> hcan k (P_ e 0) 32 /\ ∀ f, f = hwr k (P_ e 0) (ints .u8 a7 ++ []) -> ∃ (g : List Int), g.length = 32 /\ hrow f (P_ e 0) .u8 g /\ ∃ y, hc f (b.add 6) = some (.pointer y) /\ ∃ z, y = some z /\ c4 z (fun a9 A => hcs A (P_ e 0) (ints .u8 g ++ []) /\ Q (g == a9) A) f) a else if d == 4 then ∃ B, hc a (b.add 5) = some (.pointer B) /\ ∃ C, B = some C /\ c8 C (fun l => ∃ E, hc l (b.add 6) = some (.pointer E) /\ ∃ m, E = some m /\ hcan l (m.add 2) 1 /\ ∀ F, F = hwr l (m.add 2) [.slice none 0 0] -> Q true F) a else if d == 5 then ∃ G, hc a (b.add 1) = some (.pointer G) /\ ∃ I, hc a (P_ c 1) = some (vi I) /\ ∃ J, hc a (P_ c 2) = some (vi J) /\ ∃ K, G = some K /\ c2 K I J (fun ba i => ∃ L, hc i (b.add 3) = some (.pointer L) /\ ∃ M, hc i (P_ c 1) = some (vi M) /\ ∃ N, hc i (P_ c 2) = some (vi N) /\ ∃ O, L = some O /\ c9 O M N (fun bb bc => Q (ba == bb) bc) i) a else if d == 6 then ∃ P, hc a (b.add 1) = some (.pointer P) /\ ∃ R, hc a (P_ c 1) = some (vi R) /\ ∃ T, P = some T /\ c0 T R (fun bd n => ∃ U, hc n (b.add 3) = some (.pointer U) /\ ∃ V, hc n (P_ c 1) = some (vi V) /\ ∃ X, U = some X /\ c10 X V (fun be bf => Q (bd == be) bf) n) a else if d == 7 then ∃ Y, hc a b = some (.pointer Y) /\ ∃ Z, hc a (P_ c 1) = some (vi Z) /\ ∃ aa ab ac, hc a (P_ c 3) = some (.slice aa ab ac) /\ ∃ ad, Y = some ad /\ c5 ad Z aa ab ac (fun j => ∃ ae, hc j (b.add 3) = some (.pointer ae) /\ ∃ af, hc j (P_ c 1) = some (vi af) /\ ∃ ag ah ai, hc j (P_ c 3) = some (.slice ag ah ai) /\ ∃ aj, ae = some aj /\ c11 aj af ag ah ai (fun bg => Q true bg) j) a else if d == 8 then ∃ ak, hc a (b.add 7) = some (.pointer ak) /\ ∃ al, hc a (b.add 8) = some (.pointer al) /\ ∃ am, hc a (b.add 5) = some (.pointer am) /\ ∃ an, hc a (b.add 6) = some (.pointer an) /\ hcan a (b.add 5) 2 /\ ∀ o, o = hwr a (b.add 5) [.pointer ak, .pointer al] -> hcan o (b.add 7) 2 /\ ∀ ao, ao = hwr o (b.add 7) [.pointer am, .pointer an] -> Q true ao else ∃ ap, hc a b = some (.pointer ap) /\ ∃ aq, ap = some aq /\ c6 aq (fun ar => ∃ au, hc ar (b.add 3) = some (.pointer au) /\ ∃ av, au = some av /\ c12 av (fun bh => Q true bh) ar) a
theorem E_portcullislaw26_world_step : ∀ c0 c1 c2 c3 c4 c5 c6 c7 c8 c9 c10 c11 c12 a0 a1_0 a1_1 a1_2 a1_3p a1_3l a1_3c Q h, G_portcullislaw26_world_step c0 c1 c2 c3 c4 c5 c6 c7 c8 c9 c10 c11 c12 a0 a1_0 a1_1 a1_2 a1_3p a1_3l a1_3c Q h = Dbody PP [(11, W [.addr, Ti] [Ti] c0), (18, W [.addr] [.ag [.row .u8 32]] c1), (25, W [.addr, Ti, Ti] [Ti] c2), (35, W [.ag [.ptr, .ptr]] [.bool] c3), (36, W [.addr] [.ag [.row .u8 32]] c4), (39, W [.addr, Ti, .slc] [] c5), (43, W [.addr] [] c6), (108, W [.ag [.ptr, .ptr], .slc] [.bool] c7), (109, W [.addr] [] c8), (110, W [.addr, Ti, Ti] [Ti] c9), (111, W [.addr, Ti] [Ti] c10), (112, W [.addr, Ti, .slc] [] c11), (113, W [.addr] [] c12)] [] Tryz.f32 [.addr a0, .agg [.c (.int .i64 a1_0), .c (.int .i64 a1_1), .c (.int .i64 a1_2), .c (.slice a1_3p a1_3l a1_3c)]] (decR [.bool] Q) h := by intros; kernel_rfl
def F_portcullislaw26_world_step := G_portcullislaw26_world_step F_store_Store_Revoke F_stream_Gate_Digest F_store_Store_BumpTo F_portcullislaw26_pair_sum F_portcullisref26_Gate_Digest F_chip_Chip_Cut F_chip_Chip_Restore F_portcullislaw26_pair_write F_stream_Gate_Reset F_portcullisref10_BumpTo F_portcullisref10_Revoke F_portcullisref04_Chip_Cut F_portcullisref04_Chip_Restore
theorem R_portcullislaw26_world_step : RunOk PP 32 (W [.addr, .ag [Si, Si, Si, .slc]] [.bool] F_portcullislaw26_world_step) := runOk_of (tc R_store_Store_Revoke (tc R_stream_Gate_Digest (tc R_store_Store_BumpTo (tc R_portcullislaw26_pair_sum (tc R_portcullisref26_Gate_Digest (tc R_chip_Chip_Cut (tc R_chip_Chip_Restore (tc R_portcullislaw26_pair_write (tc R_stream_Gate_Reset (tc R_portcullisref10_BumpTo (tc R_portcullisref10_Revoke (tc R_portcullisref04_Chip_Cut (tc R_portcullisref04_Chip_Restore (tn)))))))))))))) Tryz.func32 (by kernel_rfl) (by kernel_rfl) (E_portcullislaw26_world_step _ _ _ _ _ _ _ _ _ _ _ _ _)
attribute [irreducible] F_portcullislaw26_world_step
def G_portcullisref04_SameState (az : OA) (a0 : Nat) (a1 : Nat) (a2 : OA) (a3 : Nat) (a4 : Nat) (a5 : OA) (a6 : Nat) (a7 : Nat) (a8 : OA) (a9 : Nat) (ba : Nat) (bb : OA) (bc : Nat) (bd : Nat) (be : OA) (bf : Nat) (bg : Nat) (Q : Bool -> H -> Prop) (h : H) : Prop := ∀ b s, hnew h b [.slice az a0 a1, .slice a2 a3 a4, .slice a5 a6 a7] s -> ∀ l d, hnew s l [.slice a8 a9 ba, .slice bb bc bd, .slice be bf bg] d -> ∀ (t : JT), (∀ (u : H), (∀ (m : JT), (∀ (a : Int) (e : H), (∃ bh v bi, hc e (P_ b 0) = some (.slice bh v bi) /\ if ltI a v then ∃ w x bj, hc e (P_ b 0) = some (.slice w x bj) /\ ∃ y, w = some y /\ 0 ≤ a /\ a < x /\ ∃ bk z bl, hc e (y.add (a.toNat * 1)) = some (.slice bk z bl) /\ ∃ A B bm, hc e (P_ l 0) = some (.slice A B bm) /\ ∃ C, A = some C /\ 0 ≤ a /\ a < B /\ ∃ bn E bo, hc e (C.add (a.toNat * 1)) = some (.slice bn E bo) /\ if (↑z : Int) != (↑E : Int) then Q false e else ∀ (n : JT), (∀ (f : Int) (c : H), (∃ F G bp, hc c (P_ b 0) = some (.slice F G bp) /\ ∃ I, F = some I /\ 0 ≤ a /\ a < G /\ ∃ bq J br, hc c (I.add (a.toNat * 1)) = some (.slice bq J br) /\ if ltI f J then ∃ K L bs, hc c (P_ b 0) = some (.slice K L bs) /\ ∃ M, K = some M /\ 0 ≤ a /\ a < L /\ ∃ N O bt, hc c (M.add (a.toNat * 1)) = some (.slice N O bt) /\ ∃ P, N = some P /\ 0 ≤ f /\ f < O /\ ∃ (o : List Int), o.length = 32 /\ hrow c (P.add (f.toNat * 32)) .u8 o /\ ∃ R T bu, hc c (P_ l 0) = some (.slice R T bu) /\ ∃ U, R = some U /\ 0 ≤ a /\ a < T /\ ∃ V X bv, hc c (U.add (a.toNat * 1)) = some (.slice V X bv) /\ ∃ Y, V = some Y /\ 0 ≤ f /\ f < X /\ ∃ (p : List Int), p.length = 32 /\ hrow c (Y.add (f.toNat * 32)) .u8 p /\ if !o == p then Q false c else n [.dv (.one (vi (IntKind.i64.wrap (f + 1))))] c else m [.dv (.one (vi (IntKind.i64.wrap (a + 1))))] c) -> n [.dv (.one (vi f))] c) -> n [.dv (.one (vi 0))] e else ∀ (q : JT), (∀ (g : Int) (i : H), (∃ bw Z bx, hc i (P_ b 1) = some (.slice bw Z bx) /\ if ltI g Z then ∃ aa ab bz, hc i (P_ b 1) = some (.slice aa ab bz) /\ ∃ ac, aa = some ac /\ 0 ≤ g /\ g < ab /\ ∃ ad, hc i (ac.add (g.toNat * 1)) = some (vi ad) /\ ∃ ae af b0, hc i (P_ l 1) = some (.slice ae af b0) /\ ∃ ag, ae = some ag /\ 0 ≤ g /\ g < af /\ ∃ ah, hc i (ag.add (g.toNat * 1)) = some (vi ah) /\ if ad != ah then Q false i else q [.dv (.one (vi (IntKind.i64.wrap (g + 1))))] i else ∀ (r : JT), (∀ (j : Int) (k : H), (∃ b1 ai b2, hc k (P_ b 2) = some (.slice b1 ai b2) /\ if ltI j ai then ∃ aj ak b3, hc k (P_ b 2) = some (.slice aj ak b3) /\ ∃ al, aj = some al /\ 0 ≤ j /\ j < ak /\ ∃ am, hc k (al.add (j.toNat * 1)) = some (.bool am) /\ ∃ an ao b4, hc k (P_ l 2) = some (.slice an ao b4) /\ ∃ ap, an = some ap /\ 0 ≤ j /\ j < ao /\ ∃ aq, hc k (ap.add (j.toNat * 1)) = some (.bool aq) /\ if !am == aq then Q false k else r [.dv (.one (vi (IntKind.i64.wrap (j + 1))))] k else Q true k) -> r [.dv (.one (vi j))] k) -> r [.dv (.one (vi 0))] i) -> q [.dv (.one (vi g))] i) -> q [.dv (.one (vi 0))] e) -> m [.dv (.one (vi a))] e) -> m [.dv (.one (vi 0))] u) -> t [] u) -> ∃ b5 ar b6, hc d (P_ b 0) = some (.slice b5 ar b6) /\ ∃ b7 au b8, hc d (P_ l 0) = some (.slice b7 au b8) /\ if (↑ar : Int) != (↑au : Int) then Q false d else ∃ b9 av ca, hc d (P_ b 1) = some (.slice b9 av ca) /\ ∃ cb aw cc, hc d (P_ l 1) = some (.slice cb aw cc) /\ if (↑av : Int) != (↑aw : Int) then Q false d else ∃ cd ax ce, hc d (P_ b 2) = some (.slice cd ax ce) /\ ∃ cf ay cg, hc d (P_ l 2) = some (.slice cf ay cg) /\ if (↑ax : Int) != (↑ay : Int) then Q false d else t [] d
theorem E_portcullisref04_SameState : ∀ a0_0p a0_0l a0_0c a0_1p a0_1l a0_1c a0_2p a0_2l a0_2c a1_0p a1_0l a1_0c a1_1p a1_1l a1_1c a1_2p a1_2l a1_2c Q h, G_portcullisref04_SameState a0_0p a0_0l a0_0c a0_1p a0_1l a0_1c a0_2p a0_2l a0_2c a1_0p a1_0l a1_0c a1_1p a1_1l a1_1c a1_2p a1_2l a1_2c Q h = Dbody PP [] [(3, []), (58, [(5, .sc (.int .i64))]), (122, [(7, .sc (.int .i64))]), (250, [(8, .sc (.int .i64))]), (7462, [(6, .sc (.int .i64))])] Tryz.f33 [.agg [.c (.slice a0_0p a0_0l a0_0c), .c (.slice a0_1p a0_1l a0_1c), .c (.slice a0_2p a0_2l a0_2c)], .agg [.c (.slice a1_0p a1_0l a1_0c), .c (.slice a1_1p a1_1l a1_1c), .c (.slice a1_2p a1_2l a1_2c)]] (decR [.bool] Q) h := by intros; kernel_rfl
def F_portcullisref04_SameState := G_portcullisref04_SameState
theorem R_portcullisref04_SameState : RunOk PP 33 (W [.ag [.slc, .slc, .slc], .ag [.slc, .slc, .slc]] [.bool] F_portcullisref04_SameState) := runOk_of (tn) Tryz.func33 (by kernel_rfl) (by kernel_rfl) (E_portcullisref04_SameState)
attribute [irreducible] F_portcullisref04_SameState
def G_slices_Clone_int_int (b : OA) (c : Nat) (k : Nat) (Q : OA -> Nat -> Nat -> H -> Prop) (h : H) : Prop := if b.isNone = true then Q none 0 0 h else ∀ d a, hnew h d [] a -> ∃ (e : List Value), hsv a b 1 c e /\ pApp a 1 [vi 0] 8 (some (P_ d 0)) 0 0 c e fun f g i j => Q f g i j
theorem E_slices_Clone_int_int : ∀ a0p a0l a0c Q h, G_slices_Clone_int_int a0p a0l a0c Q h = Dbody PP [] [] Tryz.f183 [.one (.slice a0p a0l a0c)] (decR [.slc] Q) h := by intros; kernel_rfl
def F_slices_Clone_int_int := G_slices_Clone_int_int
theorem R_slices_Clone_int_int : RunOk PP 183 (W [.slc] [.slc] F_slices_Clone_int_int) := runOk_of (tn) Tryz.func183 (by kernel_rfl) (by kernel_rfl) (E_slices_Clone_int_int)
attribute [irreducible] F_slices_Clone_int_int
def G_slices_Clone_bool_bool (b : OA) (c : Nat) (k : Nat) (Q : OA -> Nat -> Nat -> H -> Prop) (h : H) : Prop := if b.isNone = true then Q none 0 0 h else ∀ d a, hnew h d [] a -> ∃ (e : List Value), hsv a b 1 c e /\ pApp a 1 [.bool false] 1 (some (P_ d 0)) 0 0 c e fun f g i j => Q f g i j
theorem E_slices_Clone_bool_bool : ∀ a0p a0l a0c Q h, G_slices_Clone_bool_bool a0p a0l a0c Q h = Dbody PP [] [] Tryz.f184 [.one (.slice a0p a0l a0c)] (decR [.slc] Q) h := by intros; kernel_rfl
def F_slices_Clone_bool_bool := G_slices_Clone_bool_bool
theorem R_slices_Clone_bool_bool : RunOk PP 184 (W [.slc] [.slc] F_slices_Clone_bool_bool) := runOk_of (tn) Tryz.func184 (by kernel_rfl) (by kernel_rfl) (E_slices_Clone_bool_bool)
attribute [irreducible] F_slices_Clone_bool_bool
def G_slices_Clone_api_Cell_api_Cell (b : OA) (c : Nat) (k : Nat) (Q : OA -> Nat -> Nat -> H -> Prop) (h : H) : Prop := if b.isNone = true then Q none 0 0 h else ∀ d a, hnew h d [] a -> ∃ (e : List Value), hsv a b 32 c e /\ pApp a 32 (ints .u8 (zeros 32)) 32 (some (P_ d 0)) 0 0 c e fun f g i j => Q f g i j
theorem E_slices_Clone_api_Cell_api_Cell : ∀ a0p a0l a0c Q h, G_slices_Clone_api_Cell_api_Cell a0p a0l a0c Q h = Dbody PP [] [] Tryz.f185 [.one (.slice a0p a0l a0c)] (decR [.slc] Q) h := by intros; kernel_rfl
def F_slices_Clone_api_Cell_api_Cell := G_slices_Clone_api_Cell_api_Cell
theorem R_slices_Clone_api_Cell_api_Cell : RunOk PP 185 (W [.slc] [.slc] F_slices_Clone_api_Cell_api_Cell) := runOk_of (tn) Tryz.func185 (by kernel_rfl) (by kernel_rfl) (E_slices_Clone_api_Cell_api_Cell)
attribute [irreducible] F_slices_Clone_api_Cell_api_Cell
def G_chip_copied (c0 : OA -> Nat -> Nat -> (OA -> Nat -> Nat -> H -> Prop) -> H -> Prop) (c1 : OA -> Nat -> Nat -> (OA -> Nat -> Nat -> H -> Prop) -> H -> Prop) (c2 : OA -> Nat -> Nat -> (OA -> Nat -> Nat -> H -> Prop) -> H -> Prop) (aw : OA) (ax : Nat) (ay : Nat) (az : OA) (a0 : Nat) (a1 : Nat) (a2 : OA) (a3 : Nat) (a4 : Nat) (Q : OA -> Nat -> Nat -> OA -> Nat -> Nat -> OA -> Nat -> Nat -> H -> Prop) (h : H) : Prop := ∀ a E, hnew h a [.slice aw ax ay, .slice az a0 a1, .slice a2 a3 a4] E -> ∀ g j, hnew E g [.slice none 0 0, .slice none 0 0, .slice none 0 0] j -> ∀ (l : JT), (∀ (b : Addr) (x : H), (∃ F y a5, hc x (P_ a 0) = some (.slice F y a5) /\ ∀ (z : JT), (∀ (i : Int) (c : H), (if ltI i y then ∃ G, F = some G /\ 0 ≤ i /\ i < y /\ ∃ I J K, hc c (G.add (i.toNat * 1)) = some (.slice I J K) /\ ∃ m n o, hc c b = some (.slice m n o) /\ c2 I J K (fun a6 a7 a8 L => hcs L b [.slice m n o] /\ ∀ M p, hnew L M [.slice a6 a7 a8] p -> hcs p b [.slice m n o] /\ ∃ (N : List Value), hsv p (some (P_ M 0)) 1 1 N /\ pApp p 1 [.slice none 0 0] 24 m n o 1 N fun a9 ba bb O => hcan O b 1 /\ ∀ P, P = hwr O b [.slice a9 ba bb] -> z [.dv (.one (vi (IntKind.i64.wrap (i + 1))))] P) c else ∃ R T U, hc c b = some (.slice R T U) /\ ∃ V X Y, hc c (b.add 1) = some (.slice V X Y) /\ ∃ Z aa ab, hc c (b.add 2) = some (.slice Z aa ab) /\ hcan c (P_ g 0) 3 /\ ∀ k, k = hwr c (P_ g 0) [.slice R T U, .slice V X Y, .slice Z aa ab] -> ∃ ac ad ae, hc k (P_ g 0) = some (.slice ac ad ae) /\ ∃ af ag ah, hc k (P_ g 1) = some (.slice af ag ah) /\ ∃ ai aj ak, hc k (P_ g 2) = some (.slice ai aj ak) /\ Q ac ad ae af ag ah ai aj ak k) -> z [.dv (.one (vi i))] c) -> z [.dv (.one (vi 0))] x) -> l [SV.dv (DV.addr b)] x) -> ∃ q r s, hc j (P_ a 1) = some (.slice q r s) /\ ∃ d e f, hc j (P_ a 2) = some (.slice d e f) /\ c0 q r s (fun al am an A => hcs A (P_ a 2) [.slice d e f] /\ c1 d e f (fun bc bd be bf => ∀ t B, hnew bf t [.slice none 0 0, .slice none 0 0, .slice none 0 0] B -> hcan B (P_ t 0) 3 /\ ∀ ao, ao = hwr B (P_ t 0) [.slice none 0 0, .slice al am an, .slice bc bd be] -> l [SV.dv (DV.addr (P_ t 0))] ao) A /\ ∀ u C, hnew A u [.slice none 0 0, .slice none 0 0, .slice none 0 0] C -> hcs C (P_ a 2) [.slice d e f] /\ c1 d e f (fun bg bh bi ap => hcan ap (P_ u 0) 3 /\ ∀ aq, aq = hwr ap (P_ u 0) [.slice none 0 0, .slice al am an, .slice bg bh bi] -> l [SV.dv (DV.addr (P_ u 0))] aq) C) j /\ ∀ v w, hnew j v [.slice none 0 0, .slice none 0 0, .slice none 0 0] w -> hcs w (P_ a 2) [.slice d e f] /\ hcs w (P_ a 1) [.slice q r s] /\ c0 q r s (fun bj bk bl ar => hcs ar (P_ a 2) [.slice d e f] /\ c1 d e f (fun bm bn bo au => hcan au (P_ v 0) 3 /\ ∀ av, av = hwr au (P_ v 0) [.slice none 0 0, .slice bj bk bl, .slice bm bn bo] -> l [SV.dv (DV.addr (P_ v 0))] av) ar) w
theorem E_chip_copied : ∀ c0 c1 c2 a0_0p a0_0l a0_0c a0_1p a0_1l a0_1c a0_2p a0_2l a0_2c Q h, G_chip_copied c0 c1 c2 a0_0p a0_0l a0_0c a0_1p a0_1l a0_1c a0_2p a0_2l a0_2c Q h = Dbody PP [(183, W [.slc] [.slc] c0), (184, W [.slc] [.slc] c1), (185, W [.slc] [.slc] c2)] [(3, [(3, .addr)]), (58, [(16, .sc (.int .i64))])] Tryz.f114 [.agg [.c (.slice a0_0p a0_0l a0_0c), .c (.slice a0_1p a0_1l a0_1c), .c (.slice a0_2p a0_2l a0_2c)]] (decR [.ag [.slc, .slc, .slc]] Q) h := by intros; kernel_rfl
def F_chip_copied := G_chip_copied F_slices_Clone_int_int F_slices_Clone_bool_bool F_slices_Clone_api_Cell_api_Cell
theorem R_chip_copied : RunOk PP 114 (W [.ag [.slc, .slc, .slc]] [.ag [.slc, .slc, .slc]] F_chip_copied) := runOk_of (tc R_slices_Clone_int_int (tc R_slices_Clone_bool_bool (tc R_slices_Clone_api_Cell_api_Cell (tn)))) Tryz.func114 (by kernel_rfl) (by kernel_rfl) (E_chip_copied _ _ _)
attribute [irreducible] F_chip_copied
def G_chip_Chip_State (c0 : OA -> Nat -> Nat -> OA -> Nat -> Nat -> OA -> Nat -> Nat -> (OA -> Nat -> Nat -> OA -> Nat -> Nat -> OA -> Nat -> Nat -> H -> Prop) -> H -> Prop) (d : Addr) (Q : OA -> Nat -> Nat -> OA -> Nat -> Nat -> OA -> Nat -> Nat -> H -> Prop) (h : H) : Prop := ∀ a b, hnew h a [.slice none 0 0, .slice none 0 0, .slice none 0 0] b -> ∃ e f g, hc b (d.add 7) = some (.slice e f g) /\ ∃ i j k, hc b (d.add 8) = some (.slice i j k) /\ ∃ l m n, hc b (d.add 9) = some (.slice l m n) /\ c0 e f g i j k l m n (fun y z A B C E F G I o => hcan o (P_ a 0) 3 /\ ∀ c, c = hwr o (P_ a 0) [.slice y z A, .slice B C E, .slice F G I] -> ∃ p q r, hc c (P_ a 0) = some (.slice p q r) /\ ∃ s t u, hc c (P_ a 1) = some (.slice s t u) /\ ∃ v w x, hc c (P_ a 2) = some (.slice v w x) /\ Q p q r s t u v w x c) b
theorem E_chip_Chip_State : ∀ c0 a0 Q h, G_chip_Chip_State c0 a0 Q h = Dbody PP [(114, W [.ag [.slc, .slc, .slc]] [.ag [.slc, .slc, .slc]] c0)] [] Tryz.f34 [.addr a0] (decR [.ag [.slc, .slc, .slc]] Q) h := by intros; kernel_rfl
def F_chip_Chip_State := G_chip_Chip_State F_chip_copied
theorem R_chip_Chip_State : RunOk PP 34 (W [.addr] [.ag [.slc, .slc, .slc]] F_chip_Chip_State) := runOk_of (tc R_chip_copied (tn)) Tryz.func34 (by kernel_rfl) (by kernel_rfl) (E_chip_Chip_State _)
attribute [irreducible] F_chip_Chip_State
def G_portcullislaw26_StreamDoes (c0 : (Bool -> H -> Prop) -> H -> Prop) (c1 : Int -> Int -> Int -> Int -> Int -> Int -> Int -> OA -> Nat -> Nat -> (OA -> Bool -> H -> Prop) -> H -> Prop) (c2 : Addr -> (List Int -> H -> Prop) -> H -> Prop) (c3 : Addr -> (Int -> H -> Prop) -> H -> Prop) (c4 : OA -> Nat -> Nat -> (Bool -> H -> Prop) -> H -> Prop) (c5 : Addr -> Int -> Int -> Int -> OA -> Nat -> Nat -> (Bool -> H -> Prop) -> H -> Prop) (c6 : OA -> Nat -> Nat -> OA -> Nat -> Nat -> OA -> Nat -> Nat -> OA -> Nat -> Nat -> OA -> Nat -> Nat -> OA -> Nat -> Nat -> (Bool -> H -> Prop) -> H -> Prop) (c7 : Addr -> (OA -> Nat -> Nat -> OA -> Nat -> Nat -> OA -> Nat -> Nat -> H -> Prop) -> H -> Prop) (c8 : OA -> OA -> (Bool -> H -> Prop) -> H -> Prop) (c9 : Addr -> (List Int -> H -> Prop) -> H -> Prop) (a9 : Int) (ba : Int) (bb : Int) (bc : Int) (bd : Int) (be : Int) (bf : Int) (bg : OA) (bh : Nat) (bi : Nat) (U : OA) (o : Nat) (bj : Nat) (Q : Bool -> H -> Prop) (h : H) : Prop := ∀ e V, hnew h e [vi a9, vi ba, vi bb, vi bc, vi bd, vi be, vi bf] V -> c0 (fun m bk => c4 U o bj (fun bl b => if bl then Q m b else ∃ X, hc b (P_ e 0) = some (vi X) /\ ∃ Y, hc b (P_ e 1) = some (vi Y) /\ ∃ Z, hc b (P_ e 2) = some (vi Z) /\ ∃ aa, hc b (P_ e 3) = some (vi aa) /\ ∃ ab, hc b (P_ e 4) = some (vi ab) /\ ∃ ac, hc b (P_ e 5) = some (vi ac) /\ ∃ ad, hc b (P_ e 6) = some (vi ad) /\ c1 X Y Z aa ab ac ad bg bh bi (fun a p i => ∀ (ae : JT), (∀ (af : H), (∀ (q : JT), (∀ (c : Int) (d : H), (if ltI c o then ∃ j, U = some j /\ 0 ≤ c /\ c < o /\ ∃ ag, hc d (j.add (c.toNat * 4)) = some (vi ag) /\ ∃ ah, hc d ((j.add (c.toNat * 4)).add 1) = some (vi ah) /\ ∃ ai, hc d ((j.add (c.toNat * 4)).add 2) = some (vi ai) /\ ∃ aj ak al, hc d ((j.add (c.toNat * 4)).add 3) = some (.slice aj ak al) /\ ∃ am, a = some am /\ c5 am ag ah ai aj ak al (fun bm f => ∃ an, a = some an /\ ∃ ao, hc f an = some (.pointer ao) /\ ∃ r, a = some r /\ ∃ s, hc f (r.add 3) = some (.pointer s) /\ ∃ k, s = some k /\ ∃ t u v, hc f (k.add 7) = some (.slice t u v) /\ ∃ w x y, hc f (k.add 8) = some (.slice w x y) /\ ∃ z A B, hc f (k.add 9) = some (.slice z A B) /\ ∃ ap, ao = some ap /\ c7 ap (fun bn bo bp bq br bs bt bu bv C => hcs C (k.add 7) [.slice t u v, .slice w x y, .slice z A B] /\ hcs C (r.add 3) [.pointer s] /\ c6 bn bo bp bq br bs bt bu bv t u v w x y z A B (fun bw g => if !bm then Q false g else if !bw then Q false g else ∃ aq, a = some aq /\ ∃ ar, hc g aq = some (.pointer ar) /\ ∃ E, a = some E /\ ∃ F, hc g (E.add 3) = some (.pointer F) /\ ∃ G, F = some G /\ ∃ I, hc g (G.add 10) = some (vi I) /\ ∃ au, ar = some au /\ c3 au (fun bx n => hcs n (G.add 10) [vi I] /\ hcs n (E.add 3) [.pointer F] /\ if bx != I then Q false n else q [.dv (.one (vi (IntKind.i64.wrap (c + 1))))] n) g) C) f) d else ∃ J, a = some J /\ ∃ av, hc d (J.add 5) = some (.pointer av) /\ ∃ aw, hc d (J.add 6) = some (.pointer aw) /\ c8 av aw (fun bz K => ∃ L, a = some L /\ ∃ ax, hc K (L.add 7) = some (.pointer ax) /\ ∃ ay, hc K (L.add 8) = some (.pointer ay) /\ c8 ax ay (fun b0 M => ∃ az, a = some az /\ ∃ a0, hc M (az.add 5) = some (.pointer a0) /\ ∃ N, a = some N /\ ∃ O, hc M (N.add 6) = some (.pointer O) /\ ∃ a1, a0 = some a1 /\ c2 a1 (fun b1 a2 => hcs a2 (N.add 6) [.pointer O] /\ ∃ a3, O = some a3 /\ c9 a3 (fun b2 P => ∃ a4, a = some a4 /\ ∃ a5, hc P (a4.add 7) = some (.pointer a5) /\ ∃ R, a = some R /\ ∃ T, hc P (R.add 8) = some (.pointer T) /\ ∃ a6, a5 = some a6 /\ c2 a6 (fun b3 a7 => hcs a7 (R.add 8) [.pointer T] /\ ∃ a8, T = some a8 /\ c9 a8 (fun b4 l => if m then if bz then if b0 then if b1 == b2 then Q (b3 == b4) l else Q false l else Q false l else Q false l else Q false l) a7) P) a2) M) K) d) -> q [.dv (.one (vi c))] d) -> q [.dv (.one (vi 0))] af) -> ae [] af) -> if a.isNone = true then if p then Q m i else Q false i else if !p then if p then Q m i else Q false i else ae [] i) b) bk) V
theorem E_portcullislaw26_StreamDoes : ∀ c0 c1 c2 c3 c4 c5 c6 c7 c8 c9 a0_0 a0_1 a0_2 a0_3 a0_4 a0_5 a0_6 a1p a1l a1c a2p a2l a2c Q h, G_portcullislaw26_StreamDoes c0 c1 c2 c3 c4 c5 c6 c7 c8 c9 a0_0 a0_1 a0_2 a0_3 a0_4 a0_5 a0_6 a1p a1l a1c a2p a2l a2c Q h = Dbody PP [(9, W [] [.bool] c0), (10, W [.ag [Si, Si, Si, Si, Si, Si, Si], .slc] [.ptr, .bool] c1), (18, W [.addr] [.ag [.row .u8 32]] c2), (26, W [.addr] [Ti] c3), (31, W [.slc] [.bool] c4), (32, W [.addr, .ag [Si, Si, Si, .slc]] [.bool] c5), (33, W [.ag [.slc, .slc, .slc], .ag [.slc, .slc, .slc]] [.bool] c6), (34, W [.addr] [.ag [.slc, .slc, .slc]] c7), (35, W [.ag [.ptr, .ptr]] [.bool] c8), (36, W [.addr] [.ag [.row .u8 32]] c9)] [(31, []), (506, [(10, .sc (.int .i64))])] Tryz.f5 [.agg [.c (.int .i64 a0_0), .c (.int .i64 a0_1), .c (.int .i64 a0_2), .c (.int .i64 a0_3), .c (.int .i64 a0_4), .c (.int .i64 a0_5), .c (.int .i64 a0_6)], .one (.slice a1p a1l a1c), .one (.slice a2p a2l a2c)] (decR [.bool] Q) h := by intros; kernel_rfl
def F_portcullislaw26_StreamDoes := G_portcullislaw26_StreamDoes F_portcullislaw26_fixed F_portcullislaw26_begun F_stream_Gate_Digest F_chip_Chip_Acts F_portcullislaw26_many F_portcullislaw26_world_step F_portcullisref04_SameState F_chip_Chip_State F_portcullislaw26_pair_sum F_portcullisref26_Gate_Digest
theorem R_portcullislaw26_StreamDoes : RunOk PP 5 (W [.ag [Si, Si, Si, Si, Si, Si, Si], .slc, .slc] [.bool] F_portcullislaw26_StreamDoes) := runOk_of (tc R_portcullislaw26_fixed (tc R_portcullislaw26_begun (tc R_stream_Gate_Digest (tc R_chip_Chip_Acts (tc R_portcullislaw26_many (tc R_portcullislaw26_world_step (tc R_portcullisref04_SameState (tc R_chip_Chip_State (tc R_portcullislaw26_pair_sum (tc R_portcullisref26_Gate_Digest (tn))))))))))) Tryz.func5 (by kernel_rfl) (by kernel_rfl) (E_portcullislaw26_StreamDoes _ _ _ _ _ _ _ _ _ _)
attribute [irreducible] F_portcullislaw26_StreamDoes
def G_chip_Chip_begins_1 (a : Int) (Q : Int -> H -> Prop) (h : H) : Prop := Q 255 h
theorem E_chip_Chip_begins_1 : ∀ a0 Q h, G_chip_Chip_begins_1 a0 Q h = Dbody PP [] [] Tryz.f266 [.one (.int .i64 a0)] (decR [.int .u8] Q) h := by intros; kernel_rfl
def F_chip_Chip_begins_1 := G_chip_Chip_begins_1
theorem R_chip_Chip_begins_1 : RunOk PP 266 (W [Ti] [.int .u8] F_chip_Chip_begins_1) := runOk_of (tn) Tryz.func266 (by kernel_rfl) (by kernel_rfl) (E_chip_Chip_begins_1)
attribute [irreducible] F_chip_Chip_begins_1
def G_chip_Chip_begins_2 (b : Int) (c : Addr) (Q : Int -> H -> Prop) (h : H) : Prop := ∃ j d k, hc h c = some (.slice j d k) /\ if (↑d : Int) == 0 then Q 0 h else ∃ e f l, hc h c = some (.slice e f l) /\ ∃ m a n, hc h c = some (.slice m a n) /\ (↑a : Int) ≠ 0 /\ ∃ g, e = some g /\ 0 ≤ b.tmod (↑a : Int) /\ b.tmod (↑a : Int) < (↑f : Int) /\ ∃ i, hc h (g.add ((b.tmod (↑a : Int)).toNat * 1)) = some (.int .u8 i) /\ Q i h
theorem E_chip_Chip_begins_2 : ∀ a0 a1 Q h, G_chip_Chip_begins_2 a0 a1 Q h = Dbody PP [] [] Tryz.f267 [.one (.int .i64 a0), .addr a1] (decR [.int .u8] Q) h := by intros; kernel_rfl
def F_chip_Chip_begins_2 := G_chip_Chip_begins_2
theorem R_chip_Chip_begins_2 : RunOk PP 267 (W [Ti, .addr] [.int .u8] F_chip_Chip_begins_2) := runOk_of (tn) Tryz.func267 (by kernel_rfl) (by kernel_rfl) (E_chip_Chip_begins_2)
attribute [irreducible] F_chip_Chip_begins_2
end Go.Proofs.YteedolonhdbieaaGreatDoor
end
section
namespace Go.Vc
def Blk (h : H) (b : Nat) (vs : List Value) : Prop :=
 ∃ t lo n, h[b]? = some (.cells vs.toArray t (lo, lo + n)) /\ ∀ i, i < vs.length -> ¬ (lo ≤ i /\ i < lo + n)
abbrev at_ (b o : Nat) : Addr := ⟨b, o, none⟩
@[simp] theorem add_mk (b o n : Nat) : (Addr.mk b o none).add n = Addr.mk b (o + n) none := by
 unfold Addr.add; split
 ·rename_i h; subst h; rfl
 ·rfl
theorem Blk.lt {h : H} {b : Nat} {vs : List Value} (k : Blk h b vs) : b < h.size := by
 obtain ⟨t, lo, hi, hb, _⟩ := k
 exact (Array.getElem?_eq_some_iff.1 hb).1
theorem Blk.of_eq {h h' : H} {b : Nat} {vs : List Value} (k : Blk h b vs) (e : h'[b]? = h[b]?) : Blk h' b vs := by
 obtain ⟨t, lo, hi, hb, hf⟩ := k
 exact ⟨t, lo, hi, by rw [e]; exact hb, hf⟩
theorem Blk.hc {h : H} {b : Nat} {vs : List Value} (k : Blk h b vs) (o : Nat) : hc h ⟨b, o, none⟩ = vs[o]? := by
 obtain ⟨t, lo, hi, hb, _⟩ := k
 simp [Vc.hc, hb]
theorem Blk.hf {h : H} {b : Nat} {vs : List Value} (k : Blk h b vs) {o : Nat} (ho : o < vs.length) : hf h ⟨b, o, none⟩ = false := by
 obtain ⟨t, lo, hi, hb, hfz⟩ := k
 have := hfz o ho
 simp only [Vc.hf, hb]
 simp only [Bool.and_eq_false_imp, decide_eq_true_eq, decide_eq_false_iff_not]
 intro h1 h2; exact this ⟨h1, h2⟩
theorem Blk.can {h : H} {b : Nat} {vs : List Value} (k : Blk h b vs) {o n : Nat} (ho : o + n ≤ vs.length) : hcan h ⟨b, o, none⟩ n := by
 intro i hi
 have hl : o + i < vs.length := by omega
 rw [add_mk, k.hc, k.hf hl]
 simp [List.getElem?_eq_getElem hl]
theorem Blk.hcs {h : H} {b : Nat} {vs : List Value} (k : Blk h b vs) {o : Nat} {xs : List Value} (e : ∀ i, i < xs.length -> vs[o + i]? = xs[i]?) : hcs h ⟨b, o, none⟩ xs := by
 intro i v hv
 rw [add_mk, k.hc, e i (List.getElem?_eq_some_iff.1 hv).1, hv]
/-! ### Writing -/
def splice (vs : List Value) : Nat -> List Value -> List Value
 | _, [] => vs
 | o, x :: r => splice (vs.set o x) (o + 1) r
@[simp] theorem splice_nil (vs : List Value) (o : Nat) : splice vs o [] = vs := rfl
@[simp] theorem splice_cons (vs : List Value) (o : Nat) (x : Value) (r : List Value) : splice vs o (x :: r) = splice (vs.set o x) (o + 1) r := rfl
@[simp] theorem splice_length (vs : List Value) (o : Nat) (xs : List Value) : (splice vs o xs).length = vs.length := by
 induction xs generalizing vs o with
 | nil => rfl
 | cons x r ih => simp [ih]
theorem splice_get (vs : List Value) (o : Nat) (xs : List Value) (i : Nat) : (splice vs o xs)[i]? = if o ≤ i /\ i < o + xs.length /\ i < vs.length then xs[i - o]? else vs[i]? := by
 induction xs generalizing vs o with
 | nil =>
  have : ¬ (o ≤ i /\ i < o + ([] : List Value).length /\ i < vs.length) := by simp; omega
  rw [if_neg this]; rfl
 | cons x r ih =>
  rw [splice_cons, ih]
  simp only [List.length_cons, List.length_set]
  by_cases h1 : o = i
  ·subst h1
   rw [if_neg (by omega)]
   by_cases h2 : o < vs.length
   ·rw [if_pos (by omega)]; simp [h2]
   ·rw [if_neg (by omega)]
    have : (vs.set o x) = vs := List.set_eq_of_length_le (by omega)
    rw [this]
  ·rw [List.getElem?_set_ne h1]
   by_cases h2 : o + 1 ≤ i /\ i < o + 1 + r.length /\ i < vs.length
   ·rw [if_pos h2, if_pos (by omega)]
    have : i - o = (i - (o + 1)) + 1 := by omega
    rw [this]; simp
   ·rw [if_neg h2, if_neg (by omega)]
theorem splice_all (vs xs : List Value) (h : xs.length = vs.length) : splice vs 0 xs = xs := by
 apply List.ext_getElem?
 intro i
 rw [splice_get]
 split
 ·simp
 ·rename_i hn
  rw [List.getElem?_eq_none (by omega), List.getElem?_eq_none (by omega)]
theorem splice_append (a b c xs : List Value) (h : xs.length = b.length) : splice (a ++ b ++ c) a.length xs = a ++ xs ++ c := by
 apply List.ext_getElem?
 intro i
 rw [splice_get]
 simp only [List.length_append]
 split
 ·rename_i hh
  rw [List.append_assoc, List.getElem?_append_right hh.1, List.getElem?_append_left (by omega)]
 ·rename_i hh
  rw [List.append_assoc, List.append_assoc]
  by_cases h1 : i < a.length
  ·rw [List.getElem?_append_left h1, List.getElem?_append_left h1]
  ·rw [List.getElem?_append_right (by omega), List.getElem?_append_right (by omega)]
   by_cases h2 : i - a.length < b.length
   ·omega
   ·rw [List.getElem?_append_right (by omega), List.getElem?_append_right (by omega), h]
theorem hs_eq {h : H} {b : Nat} {vs : List Value} (k : Blk h b vs) (o : Nat) (v : Value) : Blk (hs h ⟨b, o, none⟩ v) b (vs.set o v) := by
 obtain ⟨t, lo, hi, hb, hfz⟩ := k
 refine ⟨t, lo, hi, ?_, by simpa using hfz⟩
 simp only [hs, Array.getElem?_modify, hb]
 simp
theorem hs_ne (h : H) (a : Addr) (v : Value) {x : Nat} (hx : x ≠ a.block) : (hs h a v)[x]? = h[x]? := by
 simp only [hs, Array.getElem?_modify]
 rw [if_neg (by omega)]
theorem hs_size (h : H) (a : Addr) (v : Value) : (hs h a v).size = h.size := by simp [hs]
theorem hwrFrom_blk {h : H} {b : Nat} {vs : List Value} (k : Blk h b vs) (o : Nat) (xs : List Value) (j : Nat) : Blk (hwrFrom h ⟨b, o, none⟩ j xs) b (splice vs (o + j) xs) := by
 induction xs generalizing h vs j with
 | nil => exact k
 | cons x r ih =>
  simp only [hwrFrom, splice_cons, add_mk]
  exact ih (hs_eq k (o + j) x) (j + 1)
theorem add_block (a : Addr) (n : Nat) : (a.add n).block = a.block := by unfold Addr.add; split <;> rfl
theorem hwrFrom_ne (h : H) (a : Addr) (j : Nat) (xs : List Value) {x : Nat} (hx : x ≠ a.block) : (hwrFrom h a j xs)[x]? = h[x]? := by
 induction xs generalizing h j with
 | nil => rfl
 | cons y r ih => simp only [hwrFrom]; rw [ih, hs_ne]; rw [add_block]; exact hx
theorem hwrFrom_size (h : H) (a : Addr) (j : Nat) (xs : List Value) : (hwrFrom h a j xs).size = h.size := by
 induction xs generalizing h j with
 | nil => rfl
 | cons y r ih => simp only [hwrFrom]; rw [ih, hs_size]
theorem Blk.wr {h : H} {b : Nat} {vs : List Value} (k : Blk h b vs) (o : Nat) (xs : List Value) : Blk (hwr h ⟨b, o, none⟩ xs) b (splice vs o xs) := hwrFrom_blk k o xs 0
theorem hwr_ne (h : H) (a : Addr) (xs : List Value) {x : Nat} (hx : x ≠ a.block) : (hwr h a xs)[x]? = h[x]? := hwrFrom_ne h a 0 xs hx
theorem hwr_size (h : H) (a : Addr) (xs : List Value) : (hwr h a xs).size = h.size := hwrFrom_size h a 0 xs
theorem Blk.wr_ne {h : H} {b : Nat} {vs : List Value} (k : Blk h b vs) {a : Addr} {xs : List Value} (hx : b ≠ a.block) : Blk (hwr h a xs) b vs := k.of_eq (hwr_ne h a xs hx)
/-! ### What is left alone -/
structure Ext (S : Nat -> Prop) (h h' : H) : Prop where
 size : h.size ≤ h'.size
 eq : ∀ b, b < h.size -> ¬ S b -> h'[b]? = h[b]?
abbrev none_ : Nat -> Prop := fun _ => False
theorem Ext.refl (S : Nat -> Prop) (h : H) : Ext S h h := ⟨Nat.le_refl _, fun _ _ _ => rfl⟩
theorem Ext.trans {S : Nat -> Prop} {h h' h'' : H} (a : Ext S h h') (b : Ext S h' h'') : Ext S h h'' :=
 ⟨Nat.le_trans a.size b.size, fun x hx hs => by rw [b.eq x (Nat.lt_of_lt_of_le hx a.size) hs, a.eq x hx hs]⟩
theorem Ext.mono {S T : Nat -> Prop} {h h' : H} (a : Ext S h h') (st : ∀ b, b < h.size -> S b -> T b) : Ext T h h' :=
 ⟨a.size, fun x hx hs => a.eq x hx fun h => hs (st x hx h)⟩
theorem Ext.comp {S T : Nat -> Prop} {h h' h'' : H} (a : Ext S h h') (b : Ext T h' h'') (st : ∀ x, x < h.size -> T x -> S x) : Ext S h h'' :=
 ⟨Nat.le_trans a.size b.size, fun x hx hs => by rw [b.eq x (Nat.lt_of_lt_of_le hx a.size) (fun t => hs (st x hx t)), a.eq x hx hs]⟩
theorem Ext.blk {S : Nat -> Prop} {h h' : H} (a : Ext S h h') {b : Nat} {vs : List Value} (k : Blk h b vs) (hb : ¬ S b) : Blk h' b vs := k.of_eq (a.eq b k.lt hb)
theorem Ext.wr (h : H) (b o : Nat) (xs : List Value) : Ext (fun x => x = b) h (hwr h ⟨b, o, none⟩ xs) :=
 ⟨by rw [hwr_size]; exact Nat.le_refl _, fun x _ hx => hwr_ne h _ xs hx⟩
theorem hnew.size {h h' : H} {b : Nat} {c : List Value} (n : hnew h b c h') : h'.size = h.size + 1 := by
 obtain ⟨_, t, lo, hi, _, rfl⟩ := n; simp
theorem hnew.b {h h' : H} {b : Nat} {c : List Value} (n : hnew h b c h') : b = h.size := n.1
theorem hnew.ext {h h' : H} {b : Nat} {c : List Value} (n : hnew h b c h') : Ext none_ h h' := by
 refine ⟨by rw [n.size]; omega, ?_⟩
 obtain ⟨_, t, lo, hi, _, rfl⟩ := n
 intro x hx _
 rw [Array.getElem?_push]; rw [if_neg (by omega)]
theorem hnew.blk {h h' : H} {b : Nat} {c : List Value} (n : hnew h b c h') : Blk h' b c := by
 obtain ⟨rfl, t, lo, hi, hf, rfl⟩ := n
 exact ⟨t, lo, hi, by simp, hf⟩
theorem Blk.ne {h : H} {b b' : Nat} {vs vs' : List Value} (k : Blk h b vs) (k' : ¬ b' < h.size) : b ≠ b' := fun e => k' (e ▸ k.lt)
/-! ### Rows of integers -/
@[simp] theorem ints_nil (k : IntKind) : ints k [] = [] := rfl
@[simp] theorem ints_cons (k : IntKind) (n : Int) (r : List Int) : ints k (n :: r) = .int k n :: ints k r := rfl
@[simp] theorem ints_length (k : IntKind) (ns : List Int) : (ints k ns).length = ns.length := by simp [ints]
@[simp] theorem ints_append (k : IntKind) (a b : List Int) : ints k (a ++ b) = ints k a ++ ints k b := by simp [ints]
theorem ints_get (k : IntKind) (ns : List Int) (i : Nat) : (ints k ns)[i]? = ns[i]?.map (Value.int k) := by simp [ints]
@[simp] theorem zeros_length (n : Nat) : (zeros n).length = n := by simp [zeros]
theorem Blk.hrow {h : H} {b : Nat} {vs : List Value} (k : Blk h b vs) {o : Nat} {kd : IntKind} {ns : List Int} (e : ∀ i, i < ns.length -> vs[o + i]? = ns[i]?.map (Value.int kd)) : hrow h ⟨b, o, none⟩ kd ns := by
 apply k.hcs
 intro i hi
 rw [e i (by simpa using hi), ints_get]
@[simp] theorem oneCell_int (k : IntKind) (n : Int) : (Value.int k n).oneCell' = true := rfl
theorem hc_congr {h h' : H} {a : Addr} (e : h'[a.block]? = h[a.block]?) : hc h' a = hc h a := by simp only [hc, e]
theorem hc_lt {h : H} {a : Addr} {v : Value} (e : hc h a = some v) : a.block < h.size := by
 rcases Nat.lt_or_ge a.block h.size with k | k
 ·exact k
 ·simp [hc, Array.getElem?_eq_none k] at e
theorem hc_ext {S : Nat -> Prop} {h h' : H} (x : Ext S h h') {a : Addr} {v : Value} (e : hc h a = some v) (hs : ¬ S a.block) : hc h' a = some v := by
 rw [hc_congr (x.eq _ (hc_lt e) hs), e]
theorem hcs_ext {S : Nat -> Prop} {h h' : H} (x : Ext S h h') {a : Addr} {vs : List Value} (e : hcs h a vs) (hs : ¬ S a.block) : hcs h' a vs := by
 intro i v hv
 exact hc_ext x (e i v hv) (by rw [add_block]; exact hs)
theorem hsv_ext {S : Nat -> Prop} {h h' : H} (x : Ext S h h') {p : Option Addr} {sz l : Nat} {vs : List Value} (e : hsv h p sz l vs) (hs : ∀ q, p = some q -> ¬ S q.block) : hsv h' p sz l vs := by
 obtain ⟨h1, h2, h3⟩ := e
 refine ⟨h1, h2, ?_⟩
 rcases h3 with h3 | ⟨q, hq, h3⟩
 ·exact Or.inl h3
 ·exact Or.inr ⟨q, hq, hcs_ext x h3 (hs q hq)⟩
theorem hsv_none {h : H} {sz l : Nat} {vs : List Value} (e : hsv h none sz l vs) : vs = [] := by
 obtain ⟨_, _, h3⟩ := e
 rcases h3 with h3 | ⟨q, hq, _⟩
 ·exact h3
 ·cases hq
theorem hsv_get {h : H} {p : Option Addr} {sz l : Nat} {vs : List Value} (e : hsv h p sz l vs) {i : Nat} {v : Value} (hi : vs[i]? = some v) : ∃ q, p = some q /\ hc h (q.add i) = some v := by
 obtain ⟨_, _, h3⟩ := e
 rcases h3 with h3 | ⟨q, hq, h3⟩
 ·subst h3; simp at hi
 ·exact ⟨q, hq, h3 i v hi⟩
def OwnS (h : H) (p : Option Addr) (l c sz : Nat) (vs : List Value) (bs : List Nat) : Prop :=
 vs.length = l * sz /\ l ≤ c /\ (∀ v, v ∈ vs -> v.oneCell' = true) /\
  ((l = 0 /\ c = 0 /\ bs = []) ∨ ∃ b rest, p = some ⟨b, 0, none⟩ /\ bs = [b] /\ Blk h b (vs ++ rest) /\ (c - l) * sz ≤ rest.length)
theorem OwnS.hsv {h : H} {p : Option Addr} {l c sz : Nat} {vs : List Value} {bs : List Nat} (o : OwnS h p l c sz vs bs) : hsv h p sz l vs := by
 obtain ⟨h1, h2, h3, h4⟩ := o
 refine ⟨h1, h3, ?_⟩
 rcases h4 with ⟨rfl, _, _⟩ | ⟨b, rest, rfl, _, k, _⟩
 ·left; apply List.eq_nil_of_length_eq_zero; simp [h1]
 ·right
  exact ⟨_, rfl, k.hcs fun i hi => by rw [Nat.zero_add, List.getElem?_append_left hi]⟩
theorem OwnS.lt {h : H} {p : Option Addr} {l c sz : Nat} {vs : List Value} {bs : List Nat} (o : OwnS h p l c sz vs bs) : ∀ b, b ∈ bs -> b < h.size := by
 obtain ⟨_, _, _, h4⟩ := o
 rcases h4 with ⟨_, _, rfl⟩ | ⟨b, rest, _, rfl, k, _⟩
 ·intro b hb; simp at hb
 ·intro b' hb; simp at hb; subst hb; exact k.lt
theorem OwnS.ext {S : Nat -> Prop} {h h' : H} (x : Ext S h h') {p : Option Addr} {l c sz : Nat} {vs : List Value} {bs : List Nat} (o : OwnS h p l c sz vs bs) (hs : ∀ b, b ∈ bs -> ¬ S b) : OwnS h' p l c sz vs bs := by
 obtain ⟨h1, h2, h3, h4⟩ := o
 refine ⟨h1, h2, h3, ?_⟩
 rcases h4 with h4 | ⟨b, rest, hp, rfl, k, hr⟩
 ·exact Or.inl h4
 ·exact Or.inr ⟨b, rest, hp, rfl, x.blk k (hs b (by simp)), hr⟩
theorem OwnS.nil (h : H) (p : Option Addr) (sz : Nat) : OwnS h p 0 0 sz [] [] := ⟨by simp, Nat.le_refl _, by simp, Or.inl ⟨rfl, rfl, rfl⟩⟩
theorem flatten_replicate_length {α : Type} (n : Nat) (z : List α) : (List.replicate n z).flatten.length = n * z.length := by
 induction n with
 | zero => simp
 | succ n ih => simp [List.replicate_succ, Nat.succ_mul, ih]; omega
def newB (h : H) (bs : List Nat) : Prop := ∀ b, b ∈ bs -> h.size ≤ b
theorem newB.ext {S : Nat -> Prop} {h h' : H} (x : Ext S h h') {bs : List Nat} (n : newB h' bs) : newB h bs := fun b hb => Nat.le_trans x.size (n b hb)
theorem pApp_empty {h : H} {sz : Nat} {z : List Value} {B : Nat} {p : Option Addr} {n : Nat} {vs : List Value} {K : Option Addr -> Nat -> Nat -> H -> Prop}
  (hl : vs.length = n * sz) (hz : z.length = sz) (hv : ∀ v, v ∈ vs -> v.oneCell' = true) (hb : n * B ≤ 2 ^ 47)
  (hk : ∀ p' c' h' bs, Ext none_ h h' -> OwnS h' p' n c' sz vs bs -> newB h bs -> K p' n c' h') : pApp h sz z B p 0 0 n vs K := by
 unfold pApp
 by_cases hn : n = 0
 ·subst hn
  have hv0 : vs = [] := List.eq_nil_of_length_eq_zero (by simp [hl])
  subst hv0
  rw [if_pos (by simp)]
  refine ⟨Or.inl rfl, fun h' e => ?_⟩
  have e' : h' = h := by rw [e]; cases p <;> rfl
  subst e'
  exact hk _ _ _ [] (Ext.refl _ _) (OwnS.nil _ _ _) (by intro b hb; simp at hb)
 ·rw [if_neg (by omega)]
  refine ⟨by simpa using hb, [], ⟨by simp, by simp, Or.inl rfl⟩, fun c' b h' hc hw => ?_⟩
  have : (0 + n) = n := by omega
  rw [this] at hc ⊢
  refine hk _ _ _ [b] hw.ext ⟨hl, hc, hv, Or.inr ⟨b, (List.replicate (c' - (0 + n)) z).flatten, rfl, rfl, ?_, ?_⟩⟩ ?_
  ·simpa using hw.blk
  ·rw [flatten_replicate_length, hz, this]; exact Nat.le_refl _
  ·intro x hx; simp at hx; subst hx; rw [hw.b]; exact Nat.le_refl _
theorem pApp_own {h : H} {sz : Nat} {z : List Value} {B : Nat} {p : Option Addr} {l c n : Nat} {old vs : List Value} {bs : List Nat} {K : Option Addr -> Nat -> Nat -> H -> Prop}
  (o : OwnS h p l c sz old bs) (hl : vs.length = n * sz) (hz : z.length = sz) (hv : ∀ v, v ∈ vs -> v.oneCell' = true) (hb : (l + n) * B ≤ 2 ^ 47)
  (hk : ∀ p' c' h' bs', Ext (fun b => b ∈ bs) h h' -> OwnS h' p' (l + n) c' sz (old ++ vs) bs' -> (∀ b, b ∈ bs' -> b ∈ bs ∨ h.size ≤ b) -> K p' (l + n) c' h') : pApp h sz z B p l c n vs K := by
 have ohs := o.hsv
 have olt := o.lt
 obtain ⟨h1, h2, h3, h4⟩ := o
 have hov : ∀ v, v ∈ old ++ vs -> v.oneCell' = true := by
  intro v hm; rcases List.mem_append.1 hm with hm | hm
  ·exact h3 v hm
  ·exact hv v hm
 have hlen : (old ++ vs).length = (l + n) * sz := by simp [h1, hl, Nat.add_mul]
 unfold pApp
 split
 ·rename_i hroom
  rcases h4 with ⟨rfl, rfl, rfl⟩ | ⟨b, rest, rfl, rfl, k, hr⟩
  ·have hn : n = 0 := by omega
   subst hn
   have hv0 : vs = [] := List.eq_nil_of_length_eq_zero (by simp [hl])
   have ho0 : old = [] := List.eq_nil_of_length_eq_zero (by simp [h1])
   subst hv0; subst ho0
   refine ⟨Or.inl rfl, fun h' e => ?_⟩
   have e' : h' = h := by rw [e]; cases p <;> rfl
   subst e'
   exact hk _ _ _ [] (Ext.refl _ _) (OwnS.nil _ _ _) (by intro b hb; simp at hb)
  ·have hnr : n * sz ≤ rest.length := by
    have : n * sz ≤ (c - l) * sz := Nat.mul_le_mul_right _ (by omega)
    omega
   refine ⟨Or.inr ⟨_, rfl, ?_⟩, fun h' e => ?_⟩
   ·rw [add_mk]; apply k.can; simp [h1]; omega
   ·simp only [Option.map_some, hwrO, add_mk, Nat.zero_add] at e
    have hs : splice (old ++ rest) (l * sz) vs = (old ++ vs) ++ rest.drop (n * sz) := by
     have : old ++ rest = old ++ rest.take (n * sz) ++ rest.drop (n * sz) := by simp
     rw [this, ← h1, splice_append]
     simp [hl, Nat.min_eq_left hnr]
    have kb := k.wr (l * sz) vs
    rw [hs] at kb
    subst e
    refine hk _ _ _ [b] ⟨by rw [hwr_size]; exact Nat.le_refl _, fun x _ hx => hwr_ne _ _ _ (by simpa using hx)⟩ ⟨hlen, hroom, hov, Or.inr ⟨b, rest.drop (n * sz), rfl, rfl, kb, ?_⟩⟩ (fun x hx => Or.inl hx)
    simp
    have : c - (l + n) = (c - l) - n := by omega
    rw [this, Nat.sub_mul]; omega
 ·rename_i hroom
  refine ⟨hb, old, ohs, fun c' b h' hc hw => ?_⟩
  refine hk _ _ _ [b] (hw.ext.mono fun _ _ hf => hf.elim) ⟨hlen, hc, hov, Or.inr ⟨b, (List.replicate (c' - (l + n)) z).flatten, rfl, rfl, ?_, ?_⟩⟩ ?_
  ·exact hw.blk
  ·rw [flatten_replicate_length, hz]; exact Nat.le_refl _
  ·intro x hx; simp at hx; subst hx; right; rw [hw.b]; exact Nat.le_refl _
abbrev si (i : Nat) : SV := .dv (.one (.int .i64 (i : Int)))
theorem loop_up {J : List SV -> H -> Prop} (N : Nat) (Inv : Nat -> H -> Prop) (step : ∀ i h, i < N -> Inv i h -> (∀ h', Inv (i + 1) h' -> J [si (i + 1)] h') -> J [si i] h)
  (exit : ∀ h, Inv N h -> J [si N] h) (i : Nat) (h : H) (hi : i ≤ N) (inv : Inv i h) : J [si i] h := by
 generalize e : N - i = n
 induction n generalizing i h with
 | zero =>
  have : i = N := by omega
  subst this; exact exit h inv
 | succ n ih => exact step i h (by omega) inv fun h' inv' => ih (i + 1) h' (by omega) inv' (by omega)
theorem wrap_succ {i : Nat} (h : i < 2 ^ 62) : IntKind.i64.wrap ((i : Int) + 1) = ((i + 1 : Nat) : Int) := by
 rw [IntKind.wrap_i64]; omega
theorem wrap_id {n : Int} (h : -(2 ^ 62) ≤ n /\ n ≤ 2 ^ 62) : IntKind.i64.wrap n = n := by
 rw [IntKind.wrap_i64]; omega
theorem wrap_u8_id {n : Int} (h : 0 ≤ n /\ n < 256) : IntKind.u8.wrap n = n := by
 rw [IntKind.wrap_u8]; omega
def mapTo (g : Nat -> Int -> Int) (i : Nat) (ns : List Int) : List Int := ns.mapIdx fun j v => if j < i then g j v else v
@[simp] theorem mapTo_length (g : Nat -> Int -> Int) (i : Nat) (ns : List Int) : (mapTo g i ns).length = ns.length := by simp [mapTo]
theorem mapTo_get (g : Nat -> Int -> Int) (i : Nat) (ns : List Int) (j : Nat) : (mapTo g i ns)[j]? = ns[j]?.map fun v => if j < i then g j v else v := by simp [mapTo]
@[simp] theorem mapTo_zero (g : Nat -> Int -> Int) (ns : List Int) : mapTo g 0 ns = ns := by
 apply List.ext_getElem?; intro j; rw [mapTo_get]; simp
theorem mapTo_succ (g : Nat -> Int -> Int) (i : Nat) (ns : List Int) (hi : i < ns.length) : (mapTo g i ns).set i (g i ns[i]) = mapTo g (i + 1) ns := by
 apply List.ext_getElem?; intro j
 by_cases h : i = j
 ·subst h; rw [List.getElem?_set_self (by simpa using hi), mapTo_get]; simp [hi]
 ·rw [List.getElem?_set_ne h, mapTo_get, mapTo_get]
  congr 1; funext v
  by_cases h1 : j < i
  ·rw [if_pos h1, if_pos (by omega)]
  ·rw [if_neg h1, if_neg (by omega)]
theorem ints_set (k : IntKind) (ns : List Int) (i : Nat) (n : Int) : (ints k ns).set i (.int k n) = ints k (ns.set i n) := by simp [ints, List.map_set]
end Go.Vc
end
