/- AreaDoes: what is proved and its parts, laid together by a program of ours: F Hp Hs Lp Sl -/
import Derived.Test.YtamfkofcpoglnaaK6
set_option autoImplicit false
set_option linter.all false
/- Denotations of functions of the program, printed by a program of ours, and that they are the model's. -/
section
set_option linter.unusedVariables false
set_option maxRecDepth 100000
namespace Go.Proofs.Ytamfkofcpoglnaa
open Go Go.Vc
def G_portcullisref14_Read (c_portcullisref14_may : Addr → Int → (Int → H → Prop) → H → Prop) (c_portcullisref14_Bytes : Addr → Int → (Option Addr → Nat → Nat → H → Prop) → H → Prop) (c_portcullisref11_Parse : Option Addr → Nat → Nat → (Int → Int → Int → Option Addr → Nat → Nat → List Int → Int → Int → H → Prop) → H → Prop) (a0 : Addr) (a1 : Int) (Q : Option Addr → Nat → Nat → Int → H → Prop) (h : H) : Prop := c_portcullisref14_may a0 a1 (fun (i7 : Int) (h8 : H) => if (i7 != 0) = true then Q none 0 0 i7 h8 else c_portcullisref14_Bytes a0 a1 (fun (o9 : Option Addr) (n10 n11 : Nat) (h12 : H) => if ltI (↑n10 : Int) 16 = true then Q none 0 0 5 h12 else ∃ (p13 : Addr), o9 = some p13 ∧ (0 : Int) ≤ 12 ∧ 12 < (↑n10 : Int) ∧ ∃ (i14 : Int), hc h12 (p13.add 12) = some (Value.int IntKind.u8 i14) ∧ ∃ (p15 : Addr), o9 = some p15 ∧ (0 : Int) ≤ 13 ∧ 13 < (↑n10 : Int) ∧ ∃ (i16 : Int), hc h12 (p15.add 13) = some (Value.int IntKind.u8 i16) ∧ ∃ (p17 : Addr), o9 = some p17 ∧ (0 : Int) ≤ 14 ∧ 14 < (↑n10 : Int) ∧ ∃ (i18 : Int), hc h12 (p17.add 14) = some (Value.int IntKind.u8 i18) ∧ ∃ (p19 : Addr), o9 = some p19 ∧ (0 : Int) ≤ 15 ∧ 15 < (↑n10 : Int) ∧ ∃ (i20 : Int), hc h12 (p19.add 15) = some (Value.int IntKind.u8 i20) ∧ if ltI (↑n10 : Int) (IntKind.i64.wrap (IntKind.i64.wrap (IntKind.i64.wrap (IntKind.i64.wrap (48 + IntKind.i64.wrap i14) + IntKind.i64.wrap (256 * IntKind.i64.wrap i16)) + IntKind.i64.wrap (65536 * IntKind.i64.wrap i18)) + IntKind.i64.wrap (16777216 * IntKind.i64.wrap i20))) = true then Q none 0 0 5 h12 else 0 ≤ IntKind.i64.wrap (IntKind.i64.wrap (IntKind.i64.wrap (IntKind.i64.wrap (48 + IntKind.i64.wrap i14) + IntKind.i64.wrap (256 * IntKind.i64.wrap i16)) + IntKind.i64.wrap (65536 * IntKind.i64.wrap i18)) + IntKind.i64.wrap (16777216 * IntKind.i64.wrap i20)) ∧ IntKind.i64.wrap (IntKind.i64.wrap (IntKind.i64.wrap (IntKind.i64.wrap (48 + IntKind.i64.wrap i14) + IntKind.i64.wrap (256 * IntKind.i64.wrap i16)) + IntKind.i64.wrap (65536 * IntKind.i64.wrap i18)) + IntKind.i64.wrap (16777216 * IntKind.i64.wrap i20)) ≤ (↑n11 : Int) ∧ c_portcullisref11_Parse (subAddr o9 0 n11 1) ((IntKind.i64.wrap (IntKind.i64.wrap (IntKind.i64.wrap (IntKind.i64.wrap (48 + IntKind.i64.wrap i14) + IntKind.i64.wrap (256 * IntKind.i64.wrap i16)) + IntKind.i64.wrap (65536 * IntKind.i64.wrap i18)) + IntKind.i64.wrap (16777216 * IntKind.i64.wrap i20))).toNat - 0) (n11 - 0) (fun (i21 i22 i23 : Int) (o24 : Option Addr) (n25 n26 : Nat) (l27 : List Int) (i28 i29 : Int) (h30 : H) => ∀ (n31 : Nat) (h32 : H), hnew h30 n31 (Value.int IntKind.i64 0 :: Value.int IntKind.i64 0 :: Value.int IntKind.i64 0 :: Value.slice none 0 0 :: ints IntKind.u8 (zeros 32)) h32 → ∀ (n34 : Nat) (h35 : H), hnew h32 n34 [Value.int IntKind.i64 0, Value.int IntKind.i64 0] h35 → hcan h35 (Addr.mk n31 0 none) 36 ∧ ∀ (h37 : H), h37 = hwr h35 (Addr.mk n31 0 none) (Value.int IntKind.i64 i21 :: Value.int IntKind.i64 i22 :: Value.int IntKind.i64 i23 :: Value.slice o24 n25 n26 :: (ints IntKind.u8 l27 ++ [])) → hcan h37 (Addr.mk n34 0 none) 2 ∧ ∀ (h39 : H), h39 = hwr h37 (Addr.mk n34 0 none) [Value.int IntKind.i64 i28, Value.int IntKind.i64 i29] → ∃ (i41 : Int), hc h39 (Addr.mk n34 0 none) = some (Value.int IntKind.i64 i41) ∧ if (i41 != 0) = true then Q none 0 0 5 h39 else 0 ≤ IntKind.i64.wrap (IntKind.i64.wrap (IntKind.i64.wrap (IntKind.i64.wrap (48 + IntKind.i64.wrap i14) + IntKind.i64.wrap (256 * IntKind.i64.wrap i16)) + IntKind.i64.wrap (65536 * IntKind.i64.wrap i18)) + IntKind.i64.wrap (16777216 * IntKind.i64.wrap i20)) ∧ IntKind.i64.wrap (IntKind.i64.wrap (IntKind.i64.wrap (IntKind.i64.wrap (48 + IntKind.i64.wrap i14) + IntKind.i64.wrap (256 * IntKind.i64.wrap i16)) + IntKind.i64.wrap (65536 * IntKind.i64.wrap i18)) + IntKind.i64.wrap (16777216 * IntKind.i64.wrap i20)) ≤ (↑n11 : Int) ∧ Q (subAddr o9 0 n11 1) ((IntKind.i64.wrap (IntKind.i64.wrap (IntKind.i64.wrap (IntKind.i64.wrap (48 + IntKind.i64.wrap i14) + IntKind.i64.wrap (256 * IntKind.i64.wrap i16)) + IntKind.i64.wrap (65536 * IntKind.i64.wrap i18)) + IntKind.i64.wrap (16777216 * IntKind.i64.wrap i20))).toNat - 0) (n11 - 0) 0 h39) h12) h8) h
theorem E_portcullisref14_Read (c_portcullisref14_may : Addr → Int → (Int → H → Prop) → H → Prop) (c_portcullisref14_Bytes : Addr → Int → ((Option Addr) → Nat → Nat → H → Prop) → H → Prop) (c_portcullisref11_Parse : (Option Addr) → Nat → Nat → (Int → Int → Int → (Option Addr) → Nat → Nat → (List Int) → Int → Int → H → Prop) → H → Prop) : ∀ (a0 : Addr) (a1 : Int) (Q : (Option Addr) → Nat → Nat → Int → H → Prop) (h : H), G_portcullisref14_Read c_portcullisref14_may c_portcullisref14_Bytes c_portcullisref11_Parse a0 a1 Q h = Dbody PP [(160, W [.addr, .int .i64] [.int .i64] c_portcullisref14_may), (176, W [.addr, .int .i64] [.slc] c_portcullisref14_Bytes), (177, W [.slc] [.ag [.int .i64, .int .i64, .int .i64, .slc, .row .u8 32], .ag [.int .i64, .int .i64]] c_portcullisref11_Parse)] [] Try.f157 [.addr a0, .one (.int .i64 a1)] (decR [.slc, .int .i64] Q) h := by intros; kernel_rfl
def F_portcullisref14_Read := G_portcullisref14_Read F_portcullisref14_may F_portcullisref14_Bytes F_portcullisref11_Parse
theorem R_portcullisref14_Read : RunOk PP 157 (W [.addr, .int .i64] [.slc, .int .i64] F_portcullisref14_Read) := runOk_of (T := [(160, W [.addr, .int .i64] [.int .i64] F_portcullisref14_may), (176, W [.addr, .int .i64] [.slc] F_portcullisref14_Bytes), (177, W [.slc] [.ag [.int .i64, .int .i64, .int .i64, .slc, .row .u8 32], .ag [.int .i64, .int .i64]] F_portcullisref11_Parse)]) (ann := []) (TblOk.cons R_portcullisref14_may (TblOk.cons R_portcullisref14_Bytes (TblOk.cons R_portcullisref11_Parse (TblOk.nil)))) Try.func157 (by kernel_rfl) (by kernel_rfl) (E_portcullisref14_Read F_portcullisref14_may F_portcullisref14_Bytes F_portcullisref11_Parse)
attribute [irreducible] F_portcullisref14_Read
def G_portcullislaw14_reads (c_area_Read : Addr → Int → (Option Addr → Nat → Nat → Int → H → Prop) → H → Prop) (c_portcullisref14_Read : Addr → Int → (Option Addr → Nat → Nat → Int → H → Prop) → H → Prop) (a0 : Addr) (a1 : Addr) (a2 : Int) (Q : Bool → H → Prop) (h : H) : Prop := c_portcullisref14_Read a1 a2 (fun (o7 : Option Addr) (n8 n9 : Nat) (i10 : Int) (h11 : H) => c_area_Read a0 a2 (fun (o12 : Option Addr) (n13 n14 : Nat) (i15 : Int) (h16 : H) => c_area_Read a0 a2 (fun (o17 : Option Addr) (n18 n19 : Nat) (i20 : Int) (h21 : H) => ∀ (J22 : List SV → H → Prop), (∀ (b23 : Bool) (h24 : H), (∀ (J25 : List SV → H → Prop), (∀ (i26 : Int) (h27 : H), (if ltI i26 (↑n13 : Int) = true then ∃ (p28 : Addr), o12 = some p28 ∧ 0 ≤ i26 ∧ i26 < (↑n13 : Int) ∧ hcan h27 (p28.add (i26.toNat * 1)) 1 ∧ ∀ (h29 : H), h29 = hwr h27 (p28.add (i26.toNat * 1)) [Value.int IntKind.u8 1] → J25 [SV.dv (DV.one (Value.int IntKind.i64 (IntKind.i64.wrap (i26 + 1))))] h29 else ∀ (J31 : List SV → H → Prop), (∀ (i32 : Int) (h33 : H), (if ltI i32 (↑n18 : Int) = true then ∃ (p34 : Addr), o17 = some p34 ∧ 0 ≤ i32 ∧ i32 < (↑n18 : Int) ∧ hcan h33 (p34.add (i32.toNat * 1)) 1 ∧ ∀ (h35 : H), h35 = hwr h33 (p34.add (i32.toNat * 1)) [Value.int IntKind.u8 2] → J31 [SV.dv (DV.one (Value.int IntKind.i64 (IntKind.i64.wrap (i32 + 1))))] h35 else ∀ (J37 : List SV → H → Prop), (∀ (o38 : Option Addr) (n39 n40 : Nat) (o41 : Option Addr) (n42 n43 : Nat) (i44 : Int) (h45 : H), (if ltI i44 40 = true then ∀ (n46 : Nat) (h47 : H), hnew h45 n46 [Value.int IntKind.u8 1] h47 → ∃ (l49 : List Value), hsv h47 (some (Addr.mk n46 0 none)) 1 1 l49 ∧ pApp h47 1 [Value.int IntKind.u8 0] 1 o38 n39 n40 1 l49 fun (o50 : Option Addr) (n51 n52 : Nat) (h53 : H) => ∀ (n54 : Nat) (h55 : H), hnew h53 n54 [Value.int IntKind.u8 2] h55 → ∃ (l57 : List Value), hsv h55 (some (Addr.mk n54 0 none)) 1 1 l57 ∧ pApp h55 1 [Value.int IntKind.u8 0] 1 o41 n42 n43 1 l57 fun (o58 : Option Addr) (n59 n60 : Nat) (h61 : H) => J37 [SV.dv (DV.one (Value.slice o50 n51 n52)), SV.dv (DV.one (Value.slice o58 n59 n60)), SV.dv (DV.one (Value.int IntKind.i64 (IntKind.i64.wrap (i44 + 1))))] h61 else ∀ (J62 : List SV → H → Prop), (∀ (b63 : Bool) (i64 : Int) (h65 : H), (if ltI i64 (↑n39 : Int) = true then if b63 = true then ∃ (p66 : Addr), o38 = some p66 ∧ 0 ≤ i64 ∧ i64 < (↑n39 : Int) ∧ ∃ (i67 : Int), hc h65 (p66.add (i64.toNat * 1)) = some (Value.int IntKind.u8 i67) ∧ if (i67 == 1) = true then if leI (↑n13 : Int) i64 = true then J62 [SV.dv (DV.one (Value.bool true)), SV.dv (DV.one (Value.int IntKind.i64 (IntKind.i64.wrap (i64 + 1))))] h65 else ∃ (p68 : Addr), o12 = some p68 ∧ 0 ≤ i64 ∧ i64 < (↑n13 : Int) ∧ ∃ (i69 : Int), hc h65 (p68.add (i64.toNat * 1)) = some (Value.int IntKind.u8 i69) ∧ J62 [SV.dv (DV.one (Value.bool (i69 == 1))), SV.dv (DV.one (Value.int IntKind.i64 (IntKind.i64.wrap (i64 + 1))))] h65 else J62 [SV.dv (DV.one (Value.bool false)), SV.dv (DV.one (Value.int IntKind.i64 (IntKind.i64.wrap (i64 + 1))))] h65 else J62 [SV.dv (DV.one (Value.bool false)), SV.dv (DV.one (Value.int IntKind.i64 (IntKind.i64.wrap (i64 + 1))))] h65 else ∀ (J70 : List SV → H → Prop), (∀ (b71 : Bool) (i72 : Int) (h73 : H), (if ltI i72 (↑n42 : Int) = true then if b71 = true then ∃ (p74 : Addr), o41 = some p74 ∧ 0 ≤ i72 ∧ i72 < (↑n42 : Int) ∧ ∃ (i75 : Int), hc h73 (p74.add (i72.toNat * 1)) = some (Value.int IntKind.u8 i75) ∧ if (i75 == 2) = true then if leI (↑n18 : Int) i72 = true then J70 [SV.dv (DV.one (Value.bool true)), SV.dv (DV.one (Value.int IntKind.i64 (IntKind.i64.wrap (i72 + 1))))] h73 else ∃ (p76 : Addr), o17 = some p76 ∧ 0 ≤ i72 ∧ i72 < (↑n18 : Int) ∧ ∃ (i77 : Int), hc h73 (p76.add (i72.toNat * 1)) = some (Value.int IntKind.u8 i77) ∧ J70 [SV.dv (DV.one (Value.bool (i77 == 2))), SV.dv (DV.one (Value.int IntKind.i64 (IntKind.i64.wrap (i72 + 1))))] h73 else J70 [SV.dv (DV.one (Value.bool false)), SV.dv (DV.one (Value.int IntKind.i64 (IntKind.i64.wrap (i72 + 1))))] h73 else J70 [SV.dv (DV.one (Value.bool false)), SV.dv (DV.one (Value.int IntKind.i64 (IntKind.i64.wrap (i72 + 1))))] h73 else Q b71 h73) → J70 [SV.dv (DV.one (Value.bool b71)), SV.dv (DV.one (Value.int IntKind.i64 i72))] h73) → J70 [SV.dv (DV.one (Value.bool b63)), SV.dv (DV.one (Value.int IntKind.i64 0))] h65) → J62 [SV.dv (DV.one (Value.bool b63)), SV.dv (DV.one (Value.int IntKind.i64 i64))] h65) → J62 [SV.dv (DV.one (Value.bool b23)), SV.dv (DV.one (Value.int IntKind.i64 0))] h45) → J37 [SV.dv (DV.one (Value.slice o38 n39 n40)), SV.dv (DV.one (Value.slice o41 n42 n43)), SV.dv (DV.one (Value.int IntKind.i64 i44))] h45) → J37 [SV.dv (DV.one (Value.slice o12 n13 n14)), SV.dv (DV.one (Value.slice o17 n18 n19)), SV.dv (DV.one (Value.int IntKind.i64 0))] h33) → J31 [SV.dv (DV.one (Value.int IntKind.i64 i32))] h33) → J31 [SV.dv (DV.one (Value.int IntKind.i64 0))] h27) → J25 [SV.dv (DV.one (Value.int IntKind.i64 i26))] h27) → J25 [SV.dv (DV.one (Value.int IntKind.i64 0))] h24) → J22 [SV.dv (DV.one (Value.bool b23))] h24) → ∃ (l90 : List Int), hsv h21 o12 1 n13 (ints IntKind.u8 l90) ∧ ∃ (l91 : List Int), hsv h21 o7 1 n8 (ints IntKind.u8 l91) ∧ if ((bytesOf l90).toList == (bytesOf l91).toList) = true then ∃ (l92 : List Int), hsv h21 o17 1 n18 (ints IntKind.u8 l92) ∧ ∃ (l93 : List Int), hsv h21 o7 1 n8 (ints IntKind.u8 l93) ∧ if ((bytesOf l92).toList == (bytesOf l93).toList) = true then if (i15 == i10) = true then J22 [SV.dv (DV.one (Value.bool (i20 == i10)))] h21 else J22 [SV.dv (DV.one (Value.bool false))] h21 else J22 [SV.dv (DV.one (Value.bool false))] h21 else J22 [SV.dv (DV.one (Value.bool false))] h21) h16) h11) h
theorem E_portcullislaw14_reads (c_area_Read : Addr → Int → ((Option Addr) → Nat → Nat → Int → H → Prop) → H → Prop) (c_portcullisref14_Read : Addr → Int → ((Option Addr) → Nat → Nat → Int → H → Prop) → H → Prop) : ∀ (a0 : Addr) (a1 : Addr) (a2 : Int) (Q : Bool → H → Prop) (h : H), G_portcullislaw14_reads c_area_Read c_portcullisref14_Read a0 a1 a2 Q h = Dbody PP [(107, W [.addr, .int .i64] [.slc, .int .i64] c_area_Read), (157, W [.addr, .int .i64] [.slc, .int .i64] c_portcullisref14_Read)] [(31, [(13, .sc (.bool))]), (506, [(14, .sc (.int .i64))]), (1018, [(15, .sc (.int .i64))]), (8186, [(16, .sc (.slc)), (17, .sc (.slc)), (18, .sc (.int .i64))]), (16378, [(13, .sc (.bool)), (19, .sc (.int .i64))]), (32762, [(13, .sc (.bool)), (20, .sc (.int .i64))])] Try.f113 [.addr a0, .addr a1, .one (.int .i64 a2)] (decR [.bool] Q) h := by intros; kernel_rfl
def F_portcullislaw14_reads := G_portcullislaw14_reads F_area_Read F_portcullisref14_Read
theorem R_portcullislaw14_reads : RunOk PP 113 (W [.addr, .addr, .int .i64] [.bool] F_portcullislaw14_reads) := runOk_of (T := [(107, W [.addr, .int .i64] [.slc, .int .i64] F_area_Read), (157, W [.addr, .int .i64] [.slc, .int .i64] F_portcullisref14_Read)]) (ann := [(31, [(13, .sc (.bool))]), (506, [(14, .sc (.int .i64))]), (1018, [(15, .sc (.int .i64))]), (8186, [(16, .sc (.slc)), (17, .sc (.slc)), (18, .sc (.int .i64))]), (16378, [(13, .sc (.bool)), (19, .sc (.int .i64))]), (32762, [(13, .sc (.bool)), (20, .sc (.int .i64))])]) (TblOk.cons R_area_Read (TblOk.cons R_portcullisref14_Read (TblOk.nil))) Try.func113 (by kernel_rfl) (by kernel_rfl) (E_portcullislaw14_reads F_area_Read F_portcullisref14_Read)
attribute [irreducible] F_portcullislaw14_reads
def G_portcullislaw14_lent (a0p : Option Addr) (a0l : Nat) (a0c : Nat) (Q : Option Addr → Nat → Nat → H → Prop) (h : H) : Prop := 0 ≤ IntKind.i64.wrap ((↑a0l : Int) + 4) ∧ IntKind.i64.wrap ((↑a0l : Int) + 4) ≤ IntKind.i64.wrap ((↑a0l : Int) + 4) ∧ (↑1 : Int) * IntKind.i64.wrap ((↑a0l : Int) + 4) ≤ 2 ^ 48 ∧ IntKind.i64.wrap ((↑a0l : Int) + 4) ≤ 2 ^ 48 ∧ ∀ (n5 : Nat) (h6 : H), hnew h n5 (List.replicate (IntKind.i64.wrap ((↑a0l : Int) + 4)).toNat [Value.int IntKind.u8 0]).flatten h6 → ∃ (l8 : List Value), hsv h6 a0p 1 (a0l.min (IntKind.i64.wrap ((↑a0l : Int) + 4)).toNat) l8 ∧ (l8 = [] ∨ ∃ (p9 : Addr), some (Addr.mk n5 0 none) = some p9 ∧ hcan h6 p9 (a0l.min (IntKind.i64.wrap ((↑a0l : Int) + 4)).toNat * 1)) ∧ ∀ (h10 : H), h10 = hwrO h6 (some (Addr.mk n5 0 none)) l8 → ∀ (J12 : List SV → H → Prop), (∀ (i13 : Int) (h14 : H), (if ltI i13 4 = true then ∃ (p15 : Addr), some (Addr.mk n5 0 none) = some p15 ∧ 0 ≤ IntKind.i64.wrap ((↑a0l : Int) + i13) ∧ IntKind.i64.wrap ((↑a0l : Int) + i13) < (↑(IntKind.i64.wrap ((↑a0l : Int) + 4)).toNat : Int) ∧ hcan h14 (p15.add ((IntKind.i64.wrap ((↑a0l : Int) + i13)).toNat * 1)) 1 ∧ ∀ (h16 : H), h16 = hwr h14 (p15.add ((IntKind.i64.wrap ((↑a0l : Int) + i13)).toNat * 1)) [Value.int IntKind.u8 (IntKind.u8.wrap (IntKind.i64.wrap (161 + i13)))] → J12 [SV.dv (DV.one (Value.int IntKind.i64 (IntKind.i64.wrap (i13 + 1))))] h16 else Q (some (Addr.mk n5 0 none)) (IntKind.i64.wrap ((↑a0l : Int) + 4)).toNat (IntKind.i64.wrap ((↑a0l : Int) + 4)).toNat h14) → J12 [SV.dv (DV.one (Value.int IntKind.i64 i13))] h14) → J12 [SV.dv (DV.one (Value.int IntKind.i64 0))] h10
theorem E_portcullislaw14_lent  : ∀ (a0p : Option Addr) (a0l : Nat) (a0c : Nat) (Q : (Option Addr) → Nat → Nat → H → Prop) (h : H), G_portcullislaw14_lent a0p a0l a0c Q h = Dbody PP [] [(122, [(4, .sc (.int .i64))])] Try.f114 [.one (.slice a0p a0l a0c)] (decR [.slc] Q) h := by intros; kernel_rfl
def F_portcullislaw14_lent := G_portcullislaw14_lent
theorem R_portcullislaw14_lent : RunOk PP 114 (W [.slc] [.slc] F_portcullislaw14_lent) := runOk_of (T := []) (ann := [(122, [(4, .sc (.int .i64))])]) (TblOk.nil) Try.func114 (by kernel_rfl) (by kernel_rfl) (E_portcullislaw14_lent)
attribute [irreducible] F_portcullislaw14_lent
def G_portcullisref14_blank (c_portcullisref04_Blank : (List Int → H → Prop) → H → Prop) (a0p : Option Addr) (a0l : Nat) (a0c : Nat) (Q : Bool → H → Prop) (h : H) : Prop := ∀ (J6 : List SV → H → Prop), (∀ (i7 : Int) (h8 : H), (if ltI i7 (↑a0l : Int) = true then ∃ (p9 : Addr), a0p = some p9 ∧ 0 ≤ i7 ∧ i7 < (↑a0l : Int) ∧ ∃ (l10 : List Int), l10.length = 32 ∧ hrow h8 (p9.add (i7.toNat * 32)) IntKind.u8 l10 ∧ c_portcullisref04_Blank (fun (l11 : List Int) (h12 : H) => hcs h12 (p9.add (i7.toNat * 32)) (ints IntKind.u8 l10 ++ []) ∧ if (!l10 == l11) = true then Q false h12 else J6 [SV.dv (DV.one (Value.int IntKind.i64 (IntKind.i64.wrap (i7 + 1))))] h12) h8 else Q true h8) → J6 [SV.dv (DV.one (Value.int IntKind.i64 i7))] h8) → J6 [SV.dv (DV.one (Value.int IntKind.i64 0))] h
theorem E_portcullisref14_blank (c_portcullisref04_Blank : ((List Int) → H → Prop) → H → Prop) : ∀ (a0p : Option Addr) (a0l : Nat) (a0c : Nat) (Q : Bool → H → Prop) (h : H), G_portcullisref14_blank c_portcullisref04_Blank a0p a0l a0c Q h = Dbody PP [(45, W [] [.ag [.row .u8 32]] c_portcullisref04_Blank)] [(26, [(3, .sc (.int .i64))])] Try.f158 [.one (.slice a0p a0l a0c)] (decR [.bool] Q) h := by intros; kernel_rfl
def F_portcullisref14_blank := G_portcullisref14_blank F_portcullisref04_Blank
theorem R_portcullisref14_blank : RunOk PP 158 (W [.slc] [.bool] F_portcullisref14_blank) := runOk_of (T := [(45, W [] [.ag [.row .u8 32]] F_portcullisref04_Blank)]) (ann := [(26, [(3, .sc (.int .i64))])]) (TblOk.cons R_portcullisref04_Blank (TblOk.nil)) Try.func158 (by kernel_rfl) (by kernel_rfl) (E_portcullisref14_blank F_portcullisref04_Blank)
attribute [irreducible] F_portcullisref14_blank
def G_portcullisref14_Worn (c_portcullisref14_blank : Option Addr → Nat → Nat → (Bool → H → Prop) → H → Prop) (c_portcullisref14_may : Addr → Int → (Int → H → Prop) → H → Prop) (a0 : Addr) (a1 : Int) (Q : Bool → Int → H → Prop) (h : H) : Prop := c_portcullisref14_may a0 a1 (fun (i6 : Int) (h7 : H) => if (i6 != 0) = true then Q false i6 h7 else ∀ (J8 : List SV → H → Prop), (∀ (i9 : Int) (h10 : H), (∃ (i11 : Int), hc h10 (a0.add 6) = some (Value.int IntKind.i64 i11) ∧ if ltI i9 i11 = true then ∃ (i12 : Int), hc h10 (a0.add 6) = some (Value.int IntKind.i64 i12) ∧ ∃ (o13 : Option Addr), ∃ (n14 : Nat), ∃ (n15 : Nat), hc h10 (a0.add 7) = some (Value.slice o13 n14 n15) ∧ ∃ (p16 : Addr), o13 = some p16 ∧ 0 ≤ IntKind.i64.wrap (IntKind.i64.wrap (2 + IntKind.i64.wrap (a1 * i12)) + i9) ∧ IntKind.i64.wrap (IntKind.i64.wrap (2 + IntKind.i64.wrap (a1 * i12)) + i9) < (↑n14 : Int) ∧ ∃ (o17 : Option Addr), ∃ (n18 : Nat), ∃ (n19 : Nat), hc h10 (p16.add ((IntKind.i64.wrap (IntKind.i64.wrap (2 + IntKind.i64.wrap (a1 * i12)) + i9)).toNat * 1)) = some (Value.slice o17 n18 n19) ∧ c_portcullisref14_blank o17 n18 n19 (fun (b20 : Bool) (h21 : H) => if (!b20) = true then ∃ (o22 : Option Addr), ∃ (n23 : Nat), ∃ (n24 : Nat), hc h21 (a0.add 8) = some (Value.slice o22 n23 n24) ∧ ∃ (p25 : Addr), o22 = some p25 ∧ 0 ≤ IntKind.i64.wrap (IntKind.i64.wrap (2 + IntKind.i64.wrap (a1 * i12)) + i9) ∧ IntKind.i64.wrap (IntKind.i64.wrap (2 + IntKind.i64.wrap (a1 * i12)) + i9) < (↑n23 : Int) ∧ ∃ (i26 : Int), hc h21 (p25.add ((IntKind.i64.wrap (IntKind.i64.wrap (2 + IntKind.i64.wrap (a1 * i12)) + i9)).toNat * 1)) = some (Value.int IntKind.i64 i26) ∧ ∃ (i27 : Int), hc h21 (a0.add 5) = some (Value.int IntKind.i64 i27) ∧ if leI i27 i26 = true then Q true 0 h21 else J8 [SV.dv (DV.one (Value.int IntKind.i64 (IntKind.i64.wrap (i9 + 1))))] h21 else J8 [SV.dv (DV.one (Value.int IntKind.i64 (IntKind.i64.wrap (i9 + 1))))] h21) h10 else Q false 0 h10) → J8 [SV.dv (DV.one (Value.int IntKind.i64 i9))] h10) → J8 [SV.dv (DV.one (Value.int IntKind.i64 0))] h7) h
theorem E_portcullisref14_Worn (c_portcullisref14_blank : (Option Addr) → Nat → Nat → (Bool → H → Prop) → H → Prop) (c_portcullisref14_may : Addr → Int → (Int → H → Prop) → H → Prop) : ∀ (a0 : Addr) (a1 : Int) (Q : Bool → Int → H → Prop) (h : H), G_portcullisref14_Worn c_portcullisref14_blank c_portcullisref14_may a0 a1 Q h = Dbody PP [(158, W [.slc] [.bool] c_portcullisref14_blank), (160, W [.addr, .int .i64] [.int .i64] c_portcullisref14_may)] [(122, [(7, .sc (.int .i64))])] Try.f117 [.addr a0, .one (.int .i64 a1)] (decR [.bool, .int .i64] Q) h := by intros; kernel_rfl
def F_portcullisref14_Worn := G_portcullisref14_Worn F_portcullisref14_blank F_portcullisref14_may
theorem R_portcullisref14_Worn : RunOk PP 117 (W [.addr, .int .i64] [.bool, .int .i64] F_portcullisref14_Worn) := runOk_of (T := [(158, W [.slc] [.bool] F_portcullisref14_blank), (160, W [.addr, .int .i64] [.int .i64] F_portcullisref14_may)]) (ann := [(122, [(7, .sc (.int .i64))])]) (TblOk.cons R_portcullisref14_blank (TblOk.cons R_portcullisref14_may (TblOk.nil))) Try.func117 (by kernel_rfl) (by kernel_rfl) (E_portcullisref14_Worn F_portcullisref14_blank F_portcullisref14_may)
attribute [irreducible] F_portcullisref14_Worn
def G_portcullisref14_lay (c_portcullisref04_Blank : (List Int → H → Prop) → H → Prop) (c_portcullisref04_Chip_Program : Addr → Int → Int → List Int → (Int → H → Prop) → H → Prop) (a0 : Addr) (a1 : Int) (a2p : Option Addr) (a2l : Nat) (a2c : Nat) (a3 : Int) (Q : Int → H → Prop) (h : H) : Prop := c_portcullisref04_Blank (fun (l10 : List Int) (h11 : H) => ∀ (n12 : Nat) (h13 : H), hnew h11 n12 (ints IntKind.u8 (zeros 32)) h13 → hcan h13 (Addr.mk n12 0 none) 32 ∧ ∀ (h15 : H), h15 = hwr h13 (Addr.mk n12 0 none) (ints IntKind.u8 l10 ++ []) → ∀ (J17 : List SV → H → Prop), (∀ (h18 : H), (∃ (i19 : Int), hc h18 (a0.add 6) = some (Value.int IntKind.i64 i19) ∧ ∃ (i20 : Int), hc h18 a0 = some (Value.int IntKind.i64 i20) ∧ i20 ≠ 0 ∧ ∃ (i21 : Int), hc h18 a0 = some (Value.int IntKind.i64 i21) ∧ i21 ≠ 0 ∧ ∃ (l22 : List Int), l22.length = 32 ∧ hrow h18 (Addr.mk n12 0 none) IntKind.u8 l22 ∧ c_portcullisref04_Chip_Program a0 (IntKind.i64.wrap (IntKind.i64.wrap (2 + IntKind.i64.wrap (a1 * i19)) + IntKind.i64.wrap (a3.tdiv i20))) (a3.tmod i21) l22 (fun (i23 : Int) (h24 : H) => Q i23 h24) h18) → J17 [] h18) → ∀ (J27 : List SV → H → Prop), (∀ (i28 : Int) (h29 : H), (if ltI i28 32 = true then if ltI (IntKind.i64.wrap (IntKind.i64.wrap (32 * a3) + i28)) (↑a2l : Int) = true then ∃ (p30 : Addr), a2p = some p30 ∧ 0 ≤ IntKind.i64.wrap (IntKind.i64.wrap (32 * a3) + i28) ∧ IntKind.i64.wrap (IntKind.i64.wrap (32 * a3) + i28) < (↑a2l : Int) ∧ ∃ (i31 : Int), hc h29 (p30.add ((IntKind.i64.wrap (IntKind.i64.wrap (32 * a3) + i28)).toNat * 1)) = some (Value.int IntKind.u8 i31) ∧ 0 ≤ i28 ∧ i28 < (↑32 : Int) ∧ hcan h29 ((Addr.mk n12 0 none).add (i28.toNat * 1)) 1 ∧ ∀ (h32 : H), h32 = hwr h29 ((Addr.mk n12 0 none).add (i28.toNat * 1)) [Value.int IntKind.u8 i31] → J27 [SV.dv (DV.one (Value.int IntKind.i64 (IntKind.i64.wrap (i28 + 1))))] h32 else J17 [] h29 else J17 [] h29) → J27 [SV.dv (DV.one (Value.int IntKind.i64 i28))] h29) → J27 [SV.dv (DV.one (Value.int IntKind.i64 0))] h15) h
theorem E_portcullisref14_lay (c_portcullisref04_Blank : ((List Int) → H → Prop) → H → Prop) (c_portcullisref04_Chip_Program : Addr → Int → Int → (List Int) → (Int → H → Prop) → H → Prop) : ∀ (a0 : Addr) (a1 : Int) (a2p : Option Addr) (a2l : Nat) (a2c : Nat) (a3 : Int) (Q : Int → H → Prop) (h : H), G_portcullisref14_lay c_portcullisref04_Blank c_portcullisref04_Chip_Program a0 a1 a2p a2l a2c a3 Q h = Dbody PP [(45, W [] [.ag [.row .u8 32]] c_portcullisref04_Blank), (127, W [.addr, .int .i64, .int .i64, .ag [.row .u8 32]] [.int .i64] c_portcullisref04_Chip_Program)] [(7, []), (58, [(10, .sc (.int .i64))])] Try.f159 [.addr a0, .one (.int .i64 a1), .one (.slice a2p a2l a2c), .one (.int .i64 a3)] (decR [.int .i64] Q) h := by intros; kernel_rfl
def F_portcullisref14_lay := G_portcullisref14_lay F_portcullisref04_Blank F_portcullisref04_Chip_Program
theorem R_portcullisref14_lay : RunOk PP 159 (W [.addr, .int .i64, .slc, .int .i64] [.int .i64] F_portcullisref14_lay) := runOk_of (T := [(45, W [] [.ag [.row .u8 32]] F_portcullisref04_Blank), (127, W [.addr, .int .i64, .int .i64, .ag [.row .u8 32]] [.int .i64] F_portcullisref04_Chip_Program)]) (ann := [(7, []), (58, [(10, .sc (.int .i64))])]) (TblOk.cons R_portcullisref04_Blank (TblOk.cons R_portcullisref04_Chip_Program (TblOk.nil))) Try.func159 (by kernel_rfl) (by kernel_rfl) (E_portcullisref14_lay F_portcullisref04_Blank F_portcullisref04_Chip_Program)
attribute [irreducible] F_portcullisref14_lay
def G_portcullisref14_Write (c_portcullisref14_Size : Int → Int → Int → Int → Int → Int → Int → (Int → H → Prop) → H → Prop) (c_portcullisref14_Worn : Addr → Int → (Bool → Int → H → Prop) → H → Prop) (c_portcullisref04_Chip_Erase : Addr → Int → (Int → H → Prop) → H → Prop) (c_portcullisref14_blank : Option Addr → Nat → Nat → (Bool → H → Prop) → H → Prop) (c_portcullisref14_lay : Addr → Int → Option Addr → Nat → Nat → Int → (Int → H → Prop) → H → Prop) (a0 : Addr) (a1 : Int) (a2p : Option Addr) (a2l : Nat) (a2c : Nat) (Q : Int → H → Prop) (h : H) : Prop := c_portcullisref14_Worn a0 a1 (fun (b12 : Bool) (i13 : Int) (h14 : H) => if (i13 != 0) = true then Q i13 h14 else if ((↑a2l : Int) == 0) = true then Q 1 h14 else ∃ (i15 : Int), hc h14 a0 = some (Value.int IntKind.i64 i15) ∧ ∃ (i16 : Int), hc h14 (a0.add 1) = some (Value.int IntKind.i64 i16) ∧ ∃ (i17 : Int), hc h14 (a0.add 2) = some (Value.int IntKind.i64 i17) ∧ ∃ (i18 : Int), hc h14 (a0.add 3) = some (Value.int IntKind.i64 i18) ∧ ∃ (i19 : Int), hc h14 (a0.add 4) = some (Value.int IntKind.i64 i19) ∧ ∃ (i20 : Int), hc h14 (a0.add 5) = some (Value.int IntKind.i64 i20) ∧ ∃ (i21 : Int), hc h14 (a0.add 6) = some (Value.int IntKind.i64 i21) ∧ c_portcullisref14_Size i15 i16 i17 i18 i19 i20 i21 (fun (i22 : Int) (h23 : H) => if ltI i22 (↑a2l : Int) = true then Q 4 h23 else if b12 = true then Q 9 h23 else ∀ (J24 : List SV → H → Prop), (∀ (i25 : Int) (h26 : H), (∃ (i27 : Int), hc h26 (a0.add 6) = some (Value.int IntKind.i64 i27) ∧ if ltI i25 i27 = true then ∃ (i28 : Int), hc h26 (a0.add 6) = some (Value.int IntKind.i64 i28) ∧ ∃ (o29 : Option Addr), ∃ (n30 : Nat), ∃ (n31 : Nat), hc h26 (a0.add 7) = some (Value.slice o29 n30 n31) ∧ ∃ (p32 : Addr), o29 = some p32 ∧ 0 ≤ IntKind.i64.wrap (IntKind.i64.wrap (2 + IntKind.i64.wrap (a1 * i28)) + i25) ∧ IntKind.i64.wrap (IntKind.i64.wrap (2 + IntKind.i64.wrap (a1 * i28)) + i25) < (↑n30 : Int) ∧ ∃ (o33 : Option Addr), ∃ (n34 : Nat), ∃ (n35 : Nat), hc h26 (p32.add ((IntKind.i64.wrap (IntKind.i64.wrap (2 + IntKind.i64.wrap (a1 * i28)) + i25)).toNat * 1)) = some (Value.slice o33 n34 n35) ∧ c_portcullisref14_blank o33 n34 n35 (fun (b36 : Bool) (h37 : H) => if b36 = true then J24 [SV.dv (DV.one (Value.int IntKind.i64 (IntKind.i64.wrap (i25 + 1))))] h37 else c_portcullisref04_Chip_Erase a0 (IntKind.i64.wrap (IntKind.i64.wrap (2 + IntKind.i64.wrap (a1 * i28)) + i25)) (fun (i38 : Int) (h39 : H) => if (i38 != 0) = true then Q i38 h39 else J24 [SV.dv (DV.one (Value.int IntKind.i64 (IntKind.i64.wrap (i25 + 1))))] h39) h37) h26 else ∀ (J40 : List SV → H → Prop), (∀ (i41 : Int) (h42 : H), (if ltI (IntKind.i64.wrap (32 * i41)) (↑a2l : Int) = true then c_portcullisref14_lay a0 a1 a2p a2l a2c i41 (fun (i43 : Int) (h44 : H) => if (i43 != 0) = true then Q i43 h44 else J40 [SV.dv (DV.one (Value.int IntKind.i64 (IntKind.i64.wrap (i41 + 1))))] h44) h42 else c_portcullisref14_lay a0 a1 a2p a2l a2c 0 (fun (i45 : Int) (h46 : H) => Q i45 h46) h42) → J40 [SV.dv (DV.one (Value.int IntKind.i64 i41))] h42) → J40 [SV.dv (DV.one (Value.int IntKind.i64 1))] h26) → J24 [SV.dv (DV.one (Value.int IntKind.i64 i25))] h26) → J24 [SV.dv (DV.one (Value.int IntKind.i64 0))] h23) h14) h
theorem E_portcullisref14_Write (c_portcullisref14_Size : Int → Int → Int → Int → Int → Int → Int → (Int → H → Prop) → H → Prop) (c_portcullisref14_Worn : Addr → Int → (Bool → Int → H → Prop) → H → Prop) (c_portcullisref04_Chip_Erase : Addr → Int → (Int → H → Prop) → H → Prop) (c_portcullisref14_blank : (Option Addr) → Nat → Nat → (Bool → H → Prop) → H → Prop) (c_portcullisref14_lay : Addr → Int → (Option Addr) → Nat → Nat → Int → (Int → H → Prop) → H → Prop) : ∀ (a0 : Addr) (a1 : Int) (a2p : Option Addr) (a2l : Nat) (a2c : Nat) (Q : Int → H → Prop) (h : H), G_portcullisref14_Write c_portcullisref14_Size c_portcullisref14_Worn c_portcullisref04_Chip_Erase c_portcullisref14_blank c_portcullisref14_lay a0 a1 a2p a2l a2c Q h = Dbody PP [(57, W [.ag [.int .i64, .int .i64, .int .i64, .int .i64, .int .i64, .int .i64, .int .i64]] [.int .i64] c_portcullisref14_Size), (117, W [.addr, .int .i64] [.bool, .int .i64] c_portcullisref14_Worn), (128, W [.addr, .int .i64] [.int .i64] c_portcullisref04_Chip_Erase), (158, W [.slc] [.bool] c_portcullisref14_blank), (159, W [.addr, .int .i64, .slc, .int .i64] [.int .i64] c_portcullisref14_lay)] [(122, [(9, .sc (.int .i64))]), (250, [(12, .sc (.int .i64))])] Try.f115 [.addr a0, .one (.int .i64 a1), .one (.slice a2p a2l a2c)] (decR [.int .i64] Q) h := by intros; kernel_rfl
def F_portcullisref14_Write := G_portcullisref14_Write F_portcullisref14_Size F_portcullisref14_Worn F_portcullisref04_Chip_Erase F_portcullisref14_blank F_portcullisref14_lay
theorem R_portcullisref14_Write : RunOk PP 115 (W [.addr, .int .i64, .slc] [.int .i64] F_portcullisref14_Write) := runOk_of (T := [(57, W [.ag [.int .i64, .int .i64, .int .i64, .int .i64, .int .i64, .int .i64, .int .i64]] [.int .i64] F_portcullisref14_Size), (117, W [.addr, .int .i64] [.bool, .int .i64] F_portcullisref14_Worn), (128, W [.addr, .int .i64] [.int .i64] F_portcullisref04_Chip_Erase), (158, W [.slc] [.bool] F_portcullisref14_blank), (159, W [.addr, .int .i64, .slc, .int .i64] [.int .i64] F_portcullisref14_lay)]) (ann := [(122, [(9, .sc (.int .i64))]), (250, [(12, .sc (.int .i64))])]) (TblOk.cons R_portcullisref14_Size (TblOk.cons R_portcullisref14_Worn (TblOk.cons R_portcullisref04_Chip_Erase (TblOk.cons R_portcullisref14_blank (TblOk.cons R_portcullisref14_lay (TblOk.nil)))))) Try.func115 (by kernel_rfl) (by kernel_rfl) (E_portcullisref14_Write F_portcullisref14_Size F_portcullisref14_Worn F_portcullisref04_Chip_Erase F_portcullisref14_blank F_portcullisref14_lay)
attribute [irreducible] F_portcullisref14_Write
def G_portcullislaw14_kept (a0p : Option Addr) (a0l : Nat) (a0c : Nat) (a1p : Option Addr) (a1l : Nat) (a1c : Nat) (Q : Bool → H → Prop) (h : H) : Prop := 0 ≤ (↑a1l : Int) ∧ (↑a1l : Int) ≤ (↑a0c : Int) ∧ (∃ (l8 : List Int), hsv h (subAddr a0p 0 a0c 1) 1 ((↑a1l : Int).toNat - 0) (ints IntKind.u8 l8) ∧ ∃ (l9 : List Int), hsv h a1p 1 a1l (ints IntKind.u8 l9) ∧ ∀ (J10 : List SV → H → Prop), (∀ (b11 : Bool) (i12 : Int) (h13 : H), (if ltI i12 4 = true then if b11 = true then ∃ (p14 : Addr), a0p = some p14 ∧ 0 ≤ IntKind.i64.wrap ((↑a1l : Int) + i12) ∧ IntKind.i64.wrap ((↑a1l : Int) + i12) < (↑a0l : Int) ∧ ∃ (i15 : Int), hc h13 (p14.add ((IntKind.i64.wrap ((↑a1l : Int) + i12)).toNat * 1)) = some (Value.int IntKind.u8 i15) ∧ J10 [SV.dv (DV.one (Value.bool (i15 == IntKind.u8.wrap (IntKind.i64.wrap (161 + i12))))), SV.dv (DV.one (Value.int IntKind.i64 (IntKind.i64.wrap (i12 + 1))))] h13 else J10 [SV.dv (DV.one (Value.bool false)), SV.dv (DV.one (Value.int IntKind.i64 (IntKind.i64.wrap (i12 + 1))))] h13 else Q b11 h13) → J10 [SV.dv (DV.one (Value.bool b11)), SV.dv (DV.one (Value.int IntKind.i64 i12))] h13) → J10 [SV.dv (DV.one (Value.bool ((bytesOf l8).toList == (bytesOf l9).toList))), SV.dv (DV.one (Value.int IntKind.i64 0))] h) ∧ ∃ (l18 : List Int), hsv h a1p 1 a1l (ints IntKind.u8 l18) ∧ ∃ (l19 : List Int), hsv h (subAddr a0p 0 a0c 1) 1 ((↑a1l : Int).toNat - 0) (ints IntKind.u8 l19) ∧ ∀ (J20 : List SV → H → Prop), (∀ (b21 : Bool) (i22 : Int) (h23 : H), (if ltI i22 4 = true then if b21 = true then ∃ (p24 : Addr), a0p = some p24 ∧ 0 ≤ IntKind.i64.wrap ((↑a1l : Int) + i22) ∧ IntKind.i64.wrap ((↑a1l : Int) + i22) < (↑a0l : Int) ∧ ∃ (i25 : Int), hc h23 (p24.add ((IntKind.i64.wrap ((↑a1l : Int) + i22)).toNat * 1)) = some (Value.int IntKind.u8 i25) ∧ J20 [SV.dv (DV.one (Value.bool (i25 == IntKind.u8.wrap (IntKind.i64.wrap (161 + i22))))), SV.dv (DV.one (Value.int IntKind.i64 (IntKind.i64.wrap (i22 + 1))))] h23 else J20 [SV.dv (DV.one (Value.bool false)), SV.dv (DV.one (Value.int IntKind.i64 (IntKind.i64.wrap (i22 + 1))))] h23 else Q b21 h23) → J20 [SV.dv (DV.one (Value.bool b21)), SV.dv (DV.one (Value.int IntKind.i64 i22))] h23) → J20 [SV.dv (DV.one (Value.bool ((bytesOf l19).toList == (bytesOf l18).toList))), SV.dv (DV.one (Value.int IntKind.i64 0))] h
theorem E_portcullislaw14_kept  : ∀ (a0p : Option Addr) (a0l : Nat) (a0c : Nat) (a1p : Option Addr) (a1l : Nat) (a1c : Nat) (Q : Bool → H → Prop) (h : H), G_portcullislaw14_kept a0p a0l a0c a1p a1l a1c Q h = Dbody PP [] [(58, [(5, .sc (.bool)), (6, .sc (.int .i64))])] Try.f116 [.one (.slice a0p a0l a0c), .one (.slice a1p a1l a1c)] (decR [.bool] Q) h := by intros; kernel_rfl
def F_portcullislaw14_kept := G_portcullislaw14_kept
theorem R_portcullislaw14_kept : RunOk PP 116 (W [.slc, .slc] [.bool] F_portcullislaw14_kept) := runOk_of (T := []) (ann := [(58, [(5, .sc (.bool)), (6, .sc (.int .i64))])]) (TblOk.nil) Try.func116 (by kernel_rfl) (by kernel_rfl) (E_portcullislaw14_kept)
attribute [irreducible] F_portcullislaw14_kept
def G_portcullislaw14_step (c_chip_Chip_Cut : Addr → Int → Option Addr → Nat → Nat → (H → Prop) → H → Prop) (c_chip_Chip_Restore : Addr → (H → Prop) → H → Prop) (c_area_Write : Addr → Int → Option Addr → Nat → Nat → (Int → H → Prop) → H → Prop) (c_portcullisref04_Chip_Cut : Addr → Int → Option Addr → Nat → Nat → (H → Prop) → H → Prop) (c_portcullisref04_Chip_Restore : Addr → (H → Prop) → H → Prop) (c_area_Worn : Addr → Int → (Bool → Int → H → Prop) → H → Prop) (c_portcullislaw14_reads : Addr → Addr → Int → (Bool → H → Prop) → H → Prop) (c_portcullislaw14_lent : Option Addr → Nat → Nat → (Option Addr → Nat → Nat → H → Prop) → H → Prop) (c_portcullisref14_Write : Addr → Int → Option Addr → Nat → Nat → (Int → H → Prop) → H → Prop) (c_portcullislaw14_kept : Option Addr → Nat → Nat → Option Addr → Nat → Nat → (Bool → H → Prop) → H → Prop) (c_portcullisref14_Worn : Addr → Int → (Bool → Int → H → Prop) → H → Prop) (a0 : Addr) (a1 : Addr) (a2_0 : Int) (a2_1 : Int) (a2_2 : Int) (a2_3p : Option Addr) (a2_3l : Nat) (a2_3c : Nat) (Q : Bool → H → Prop) (h : H) : Prop := ∀ (n21 : Nat) (h22 : H), hnew h n21 [Value.int IntKind.i64 a2_0, Value.int IntKind.i64 a2_1, Value.int IntKind.i64 a2_2, Value.slice a2_3p a2_3l a2_3c] h22 → ∃ (i24 : Int), hc h22 (Addr.mk n21 0 none) = some (Value.int IntKind.i64 i24) ∧ if (i24 == 1) = true then ∃ (i25 : Int), hc h22 ((Addr.mk n21 0 none).add 1) = some (Value.int IntKind.i64 i25) ∧ c_portcullislaw14_reads a0 a1 i25 (fun (b26 : Bool) (h27 : H) => Q b26 h27) h22 else if (i24 == 2) = true then ∃ (o28 : Option Addr), ∃ (n29 : Nat), ∃ (n30 : Nat), hc h22 ((Addr.mk n21 0 none).add 3) = some (Value.slice o28 n29 n30) ∧ c_portcullislaw14_lent o28 n29 n30 (fun (o31 : Option Addr) (n32 n33 : Nat) (h34 : H) => ∃ (i35 : Int), hc h34 ((Addr.mk n21 0 none).add 1) = some (Value.int IntKind.i64 i35) ∧ ∃ (o36 : Option Addr), ∃ (n37 : Nat), ∃ (n38 : Nat), hc h34 ((Addr.mk n21 0 none).add 3) = some (Value.slice o36 n37 n38) ∧ 0 ≤ (↑n37 : Int) ∧ (↑n37 : Int) ≤ (↑n33 : Int) ∧ c_area_Write a0 i35 (subAddr o31 0 n33 1) ((↑n37 : Int).toNat - 0) (n33 - 0) (fun (i39 : Int) (h40 : H) => ∃ (i41 : Int), hc h40 ((Addr.mk n21 0 none).add 1) = some (Value.int IntKind.i64 i41) ∧ ∃ (o42 : Option Addr), ∃ (n43 : Nat), ∃ (n44 : Nat), hc h40 ((Addr.mk n21 0 none).add 3) = some (Value.slice o42 n43 n44) ∧ c_portcullisref14_Write a1 i41 o42 n43 n44 (fun (i45 : Int) (h46 : H) => ∃ (o47 : Option Addr), ∃ (n48 : Nat), ∃ (n49 : Nat), hc h46 ((Addr.mk n21 0 none).add 3) = some (Value.slice o47 n48 n49) ∧ c_portcullislaw14_kept o31 n32 n33 o47 n48 n49 (fun (b50 : Bool) (h51 : H) => ∀ (J52 : List SV → H → Prop), (∀ (i53 : Int) (h54 : H), (if ltI i53 (↑n32 : Int) = true then ∃ (p55 : Addr), o31 = some p55 ∧ 0 ≤ i53 ∧ i53 < (↑n32 : Int) ∧ ∃ (i56 : Int), hc h54 (p55.add (i53.toNat * 1)) = some (Value.int IntKind.u8 i56) ∧ ∃ (p57 : Addr), o31 = some p57 ∧ 0 ≤ i53 ∧ i53 < (↑n32 : Int) ∧ hcan h54 (p57.add (i53.toNat * 1)) 1 ∧ ∀ (h58 : H), h58 = hwr h54 (p57.add (i53.toNat * 1)) [Value.int IntKind.u8 (bits BinOp.xor IntKind.u8 i56 60)] → J52 [SV.dv (DV.one (Value.int IntKind.i64 (IntKind.i64.wrap (i53 + 1))))] h58 else if b50 = true then Q (i39 == i45) h54 else Q false h54) → J52 [SV.dv (DV.one (Value.int IntKind.i64 i53))] h54) → J52 [SV.dv (DV.one (Value.int IntKind.i64 0))] h51) h46) h40) h34) h22 else if (i24 == 3) = true then ∃ (i62 : Int), hc h22 ((Addr.mk n21 0 none).add 1) = some (Value.int IntKind.i64 i62) ∧ c_area_Worn a0 i62 (fun (b63 : Bool) (i64 : Int) (h65 : H) => ∃ (i66 : Int), hc h65 ((Addr.mk n21 0 none).add 1) = some (Value.int IntKind.i64 i66) ∧ c_portcullisref14_Worn a1 i66 (fun (b67 : Bool) (i68 : Int) (h69 : H) => if (b63 == b67) = true then Q (i64 == i68) h69 else Q false h69) h65) h22 else if (i24 == 4) = true then ∃ (i70 : Int), hc h22 ((Addr.mk n21 0 none).add 2) = some (Value.int IntKind.i64 i70) ∧ ∃ (o71 : Option Addr), ∃ (n72 : Nat), ∃ (n73 : Nat), hc h22 ((Addr.mk n21 0 none).add 3) = some (Value.slice o71 n72 n73) ∧ c_chip_Chip_Cut a0 i70 o71 n72 n73 (fun (h74 : H) => ∃ (i75 : Int), hc h74 ((Addr.mk n21 0 none).add 2) = some (Value.int IntKind.i64 i75) ∧ ∃ (o76 : Option Addr), ∃ (n77 : Nat), ∃ (n78 : Nat), hc h74 ((Addr.mk n21 0 none).add 3) = some (Value.slice o76 n77 n78) ∧ c_portcullisref04_Chip_Cut a1 i75 o76 n77 n78 (fun (h79 : H) => Q true h79) h74) h22 else c_chip_Chip_Restore a0 (fun (h80 : H) => c_portcullisref04_Chip_Restore a1 (fun (h81 : H) => Q true h81) h80) h22
theorem E_portcullislaw14_step (c_chip_Chip_Cut : Addr → Int → (Option Addr) → Nat → Nat → (H → Prop) → H → Prop) (c_chip_Chip_Restore : Addr → (H → Prop) → H → Prop) (c_area_Write : Addr → Int → (Option Addr) → Nat → Nat → (Int → H → Prop) → H → Prop) (c_portcullisref04_Chip_Cut : Addr → Int → (Option Addr) → Nat → Nat → (H → Prop) → H → Prop) (c_portcullisref04_Chip_Restore : Addr → (H → Prop) → H → Prop) (c_area_Worn : Addr → Int → (Bool → Int → H → Prop) → H → Prop) (c_portcullislaw14_reads : Addr → Addr → Int → (Bool → H → Prop) → H → Prop) (c_portcullislaw14_lent : (Option Addr) → Nat → Nat → ((Option Addr) → Nat → Nat → H → Prop) → H → Prop) (c_portcullisref14_Write : Addr → Int → (Option Addr) → Nat → Nat → (Int → H → Prop) → H → Prop) (c_portcullislaw14_kept : (Option Addr) → Nat → Nat → (Option Addr) → Nat → Nat → (Bool → H → Prop) → H → Prop) (c_portcullisref14_Worn : Addr → Int → (Bool → Int → H → Prop) → H → Prop) : ∀ (a0 : Addr) (a1 : Addr) (a2_0 : Int) (a2_1 : Int) (a2_2 : Int) (a2_3p : Option Addr) (a2_3l : Nat) (a2_3c : Nat) (Q : Bool → H → Prop) (h : H), G_portcullislaw14_step c_chip_Chip_Cut c_chip_Chip_Restore c_area_Write c_portcullisref04_Chip_Cut c_portcullisref04_Chip_Restore c_area_Worn c_portcullislaw14_reads c_portcullislaw14_lent c_portcullisref14_Write c_portcullislaw14_kept c_portcullisref14_Worn a0 a1 a2_0 a2_1 a2_2 a2_3p a2_3l a2_3c Q h = Dbody PP [(23, W [.addr, .int .i64, .slc] [] c_chip_Chip_Cut), (36, W [.addr] [] c_chip_Chip_Restore), (54, W [.addr, .int .i64, .slc] [.int .i64] c_area_Write), (87, W [.addr, .int .i64, .slc] [] c_portcullisref04_Chip_Cut), (89, W [.addr] [] c_portcullisref04_Chip_Restore), (108, W [.addr, .int .i64] [.bool, .int .i64] c_area_Worn), (113, W [.addr, .addr, .int .i64] [.bool] c_portcullislaw14_reads), (114, W [.slc] [.slc] c_portcullislaw14_lent), (115, W [.addr, .int .i64, .slc] [.int .i64] c_portcullisref14_Write), (116, W [.slc, .slc] [.bool] c_portcullislaw14_kept), (117, W [.addr, .int .i64] [.bool, .int .i64] c_portcullisref14_Worn)] [(55162, [(11, .sc (.int .i64))])] Try.f58 [.addr a0, .addr a1, .agg [.c (.int .i64 a2_0), .c (.int .i64 a2_1), .c (.int .i64 a2_2), .c (.slice a2_3p a2_3l a2_3c)]] (decR [.bool] Q) h := by intros; kernel_rfl
def F_portcullislaw14_step := G_portcullislaw14_step F_chip_Chip_Cut F_chip_Chip_Restore F_area_Write F_portcullisref04_Chip_Cut F_portcullisref04_Chip_Restore F_area_Worn F_portcullislaw14_reads F_portcullislaw14_lent F_portcullisref14_Write F_portcullislaw14_kept F_portcullisref14_Worn
theorem R_portcullislaw14_step : RunOk PP 58 (W [.addr, .addr, .ag [.int .i64, .int .i64, .int .i64, .slc]] [.bool] F_portcullislaw14_step) := runOk_of (T := [(23, W [.addr, .int .i64, .slc] [] F_chip_Chip_Cut), (36, W [.addr] [] F_chip_Chip_Restore), (54, W [.addr, .int .i64, .slc] [.int .i64] F_area_Write), (87, W [.addr, .int .i64, .slc] [] F_portcullisref04_Chip_Cut), (89, W [.addr] [] F_portcullisref04_Chip_Restore), (108, W [.addr, .int .i64] [.bool, .int .i64] F_area_Worn), (113, W [.addr, .addr, .int .i64] [.bool] F_portcullislaw14_reads), (114, W [.slc] [.slc] F_portcullislaw14_lent), (115, W [.addr, .int .i64, .slc] [.int .i64] F_portcullisref14_Write), (116, W [.slc, .slc] [.bool] F_portcullislaw14_kept), (117, W [.addr, .int .i64] [.bool, .int .i64] F_portcullisref14_Worn)]) (ann := [(55162, [(11, .sc (.int .i64))])]) (TblOk.cons R_chip_Chip_Cut (TblOk.cons R_chip_Chip_Restore (TblOk.cons R_area_Write (TblOk.cons R_portcullisref04_Chip_Cut (TblOk.cons R_portcullisref04_Chip_Restore (TblOk.cons R_area_Worn (TblOk.cons R_portcullislaw14_reads (TblOk.cons R_portcullislaw14_lent (TblOk.cons R_portcullisref14_Write (TblOk.cons R_portcullislaw14_kept (TblOk.cons R_portcullisref14_Worn (TblOk.nil)))))))))))) Try.func58 (by kernel_rfl) (by kernel_rfl) (E_portcullislaw14_step F_chip_Chip_Cut F_chip_Chip_Restore F_area_Write F_portcullisref04_Chip_Cut F_portcullisref04_Chip_Restore F_area_Worn F_portcullislaw14_reads F_portcullislaw14_lent F_portcullisref14_Write F_portcullislaw14_kept F_portcullisref14_Worn)
attribute [irreducible] F_portcullislaw14_step
def G_portcullislaw14_AreaDoes (c_chip_Lay : Int → Int → Int → Int → Int → Int → Int → Option Addr → Nat → Nat → Option Addr → Nat → Nat → Option Addr → Nat → Nat → (Option Addr → Int → H → Prop) → H → Prop) (c_chip_Chip_State : Addr → (Option Addr → Nat → Nat → Option Addr → Nat → Nat → Option Addr → Nat → Nat → H → Prop) → H → Prop) (c_chip_Chip_Out : Addr → (Bool → H → Prop) → H → Prop) (c_portcullisref04_SameState : Option Addr → Nat → Nat → Option Addr → Nat → Nat → Option Addr → Nat → Nat → Option Addr → Nat → Nat → Option Addr → Nat → Nat → Option Addr → Nat → Nat → (Bool → H → Prop) → H → Prop) (c_chip_Chip_Acts : Addr → (Int → H → Prop) → H → Prop) (c_portcullisref04_Lay : Int → Int → Int → Int → Int → Int → Int → Option Addr → Nat → Nat → Option Addr → Nat → Nat → Option Addr → Nat → Nat → (Option Addr → Int → H → Prop) → H → Prop) (c_portcullislaw14_fixed : (Bool → H → Prop) → H → Prop) (c_area_Size : Int → Int → Int → Int → Int → Int → Int → (Int → H → Prop) → H → Prop) (c_portcullisref14_Size : Int → Int → Int → Int → Int → Int → Int → (Int → H → Prop) → H → Prop) (c_portcullislaw14_step : Addr → Addr → Int → Int → Int → Option Addr → Nat → Nat → (Bool → H → Prop) → H → Prop) (a0_0 : Int) (a0_1 : Int) (a0_2 : Int) (a0_3 : Int) (a0_4 : Int) (a0_5 : Int) (a0_6 : Int) (a1_0p : Option Addr) (a1_0l : Nat) (a1_0c : Nat) (a1_1p : Option Addr) (a1_1l : Nat) (a1_1c : Nat) (a1_2p : Option Addr) (a1_2l : Nat) (a1_2c : Nat) (a2p : Option Addr) (a2l : Nat) (a2c : Nat) (Q : Bool → H → Prop) (h : H) : Prop := ∀ (n31 : Nat) (h32 : H), hnew h n31 [Value.int IntKind.i64 a0_0, Value.int IntKind.i64 a0_1, Value.int IntKind.i64 a0_2, Value.int IntKind.i64 a0_3, Value.int IntKind.i64 a0_4, Value.int IntKind.i64 a0_5, Value.int IntKind.i64 a0_6] h32 → ∀ (n34 : Nat) (h35 : H), hnew h32 n34 [Value.slice a1_0p a1_0l a1_0c, Value.slice a1_1p a1_1l a1_1c, Value.slice a1_2p a1_2l a1_2c] h35 → c_portcullislaw14_fixed (fun (b37 : Bool) (h38 : H) => ∃ (i39 : Int), hc h38 (Addr.mk n31 0 none) = some (Value.int IntKind.i64 i39) ∧ ∃ (i40 : Int), hc h38 ((Addr.mk n31 0 none).add 1) = some (Value.int IntKind.i64 i40) ∧ ∃ (i41 : Int), hc h38 ((Addr.mk n31 0 none).add 2) = some (Value.int IntKind.i64 i41) ∧ ∃ (i42 : Int), hc h38 ((Addr.mk n31 0 none).add 3) = some (Value.int IntKind.i64 i42) ∧ ∃ (i43 : Int), hc h38 ((Addr.mk n31 0 none).add 4) = some (Value.int IntKind.i64 i43) ∧ ∃ (i44 : Int), hc h38 ((Addr.mk n31 0 none).add 5) = some (Value.int IntKind.i64 i44) ∧ ∃ (i45 : Int), hc h38 ((Addr.mk n31 0 none).add 6) = some (Value.int IntKind.i64 i45) ∧ ∃ (o46 : Option Addr), ∃ (n47 : Nat), ∃ (n48 : Nat), hc h38 (Addr.mk n34 0 none) = some (Value.slice o46 n47 n48) ∧ ∃ (o49 : Option Addr), ∃ (n50 : Nat), ∃ (n51 : Nat), hc h38 ((Addr.mk n34 0 none).add 1) = some (Value.slice o49 n50 n51) ∧ ∃ (o52 : Option Addr), ∃ (n53 : Nat), ∃ (n54 : Nat), hc h38 ((Addr.mk n34 0 none).add 2) = some (Value.slice o52 n53 n54) ∧ c_chip_Lay i39 i40 i41 i42 i43 i44 i45 o46 n47 n48 o49 n50 n51 o52 n53 n54 (fun (o55 : Option Addr) (i56 : Int) (h57 : H) => ∃ (i58 : Int), hc h57 (Addr.mk n31 0 none) = some (Value.int IntKind.i64 i58) ∧ ∃ (i59 : Int), hc h57 ((Addr.mk n31 0 none).add 1) = some (Value.int IntKind.i64 i59) ∧ ∃ (i60 : Int), hc h57 ((Addr.mk n31 0 none).add 2) = some (Value.int IntKind.i64 i60) ∧ ∃ (i61 : Int), hc h57 ((Addr.mk n31 0 none).add 3) = some (Value.int IntKind.i64 i61) ∧ ∃ (i62 : Int), hc h57 ((Addr.mk n31 0 none).add 4) = some (Value.int IntKind.i64 i62) ∧ ∃ (i63 : Int), hc h57 ((Addr.mk n31 0 none).add 5) = some (Value.int IntKind.i64 i63) ∧ ∃ (i64 : Int), hc h57 ((Addr.mk n31 0 none).add 6) = some (Value.int IntKind.i64 i64) ∧ ∃ (o65 : Option Addr), ∃ (n66 : Nat), ∃ (n67 : Nat), hc h57 (Addr.mk n34 0 none) = some (Value.slice o65 n66 n67) ∧ ∃ (o68 : Option Addr), ∃ (n69 : Nat), ∃ (n70 : Nat), hc h57 ((Addr.mk n34 0 none).add 1) = some (Value.slice o68 n69 n70) ∧ ∃ (o71 : Option Addr), ∃ (n72 : Nat), ∃ (n73 : Nat), hc h57 ((Addr.mk n34 0 none).add 2) = some (Value.slice o71 n72 n73) ∧ c_portcullisref04_Lay i58 i59 i60 i61 i62 i63 i64 o65 n66 n67 o68 n69 n70 o71 n72 n73 (fun (o74 : Option Addr) (i75 : Int) (h76 : H) => ∃ (i77 : Int), hc h76 (Addr.mk n31 0 none) = some (Value.int IntKind.i64 i77) ∧ ∃ (i78 : Int), hc h76 ((Addr.mk n31 0 none).add 1) = some (Value.int IntKind.i64 i78) ∧ ∃ (i79 : Int), hc h76 ((Addr.mk n31 0 none).add 2) = some (Value.int IntKind.i64 i79) ∧ ∃ (i80 : Int), hc h76 ((Addr.mk n31 0 none).add 3) = some (Value.int IntKind.i64 i80) ∧ ∃ (i81 : Int), hc h76 ((Addr.mk n31 0 none).add 4) = some (Value.int IntKind.i64 i81) ∧ ∃ (i82 : Int), hc h76 ((Addr.mk n31 0 none).add 5) = some (Value.int IntKind.i64 i82) ∧ ∃ (i83 : Int), hc h76 ((Addr.mk n31 0 none).add 6) = some (Value.int IntKind.i64 i83) ∧ ∃ (i84 : Int), hc h76 (Addr.mk n31 0 none) = some (Value.int IntKind.i64 i84) ∧ ∃ (i85 : Int), hc h76 ((Addr.mk n31 0 none).add 1) = some (Value.int IntKind.i64 i85) ∧ ∃ (i86 : Int), hc h76 ((Addr.mk n31 0 none).add 2) = some (Value.int IntKind.i64 i86) ∧ ∃ (i87 : Int), hc h76 ((Addr.mk n31 0 none).add 3) = some (Value.int IntKind.i64 i87) ∧ ∃ (i88 : Int), hc h76 ((Addr.mk n31 0 none).add 4) = some (Value.int IntKind.i64 i88) ∧ ∃ (i89 : Int), hc h76 ((Addr.mk n31 0 none).add 5) = some (Value.int IntKind.i64 i89) ∧ ∃ (i90 : Int), hc h76 ((Addr.mk n31 0 none).add 6) = some (Value.int IntKind.i64 i90) ∧ c_area_Size i77 i78 i79 i80 i81 i82 i83 (fun (i91 : Int) (h92 : H) => hcs h92 (Addr.mk n31 0 none) [Value.int IntKind.i64 i84, Value.int IntKind.i64 i85, Value.int IntKind.i64 i86, Value.int IntKind.i64 i87, Value.int IntKind.i64 i88, Value.int IntKind.i64 i89, Value.int IntKind.i64 i90] ∧ c_portcullisref14_Size i84 i85 i86 i87 i88 i89 i90 (fun (i93 : Int) (h94 : H) => ∀ (J95 : List SV → H → Prop), (∀ (h96 : H), (∀ (J97 : List SV → H → Prop), (∀ (i98 : Int) (h99 : H), (∀ (J100 : List SV → H → Prop), (∀ (h101 : H), (∃ (p102 : Addr), a2p = some p102 ∧ 0 ≤ i98 ∧ i98 < (↑a2l : Int) ∧ ∃ (i103 : Int), hc h101 (p102.add (i98.toNat * 4)) = some (Value.int IntKind.i64 i103) ∧ ∃ (i104 : Int), hc h101 ((p102.add (i98.toNat * 4)).add 1) = some (Value.int IntKind.i64 i104) ∧ ∃ (i105 : Int), hc h101 ((p102.add (i98.toNat * 4)).add 2) = some (Value.int IntKind.i64 i105) ∧ ∃ (o106 : Option Addr), ∃ (n107 : Nat), ∃ (n108 : Nat), hc h101 ((p102.add (i98.toNat * 4)).add 3) = some (Value.slice o106 n107 n108) ∧ ∃ (p109 : Addr), o55 = some p109 ∧ ∃ (p110 : Addr), o74 = some p110 ∧ c_portcullislaw14_step p109 p110 i103 i104 i105 o106 n107 n108 (fun (b111 : Bool) (h112 : H) => ∃ (p113 : Addr), o74 = some p113 ∧ ∃ (o114 : Option Addr), ∃ (n115 : Nat), ∃ (n116 : Nat), hc h112 (p113.add 7) = some (Value.slice o114 n115 n116) ∧ ∃ (o117 : Option Addr), ∃ (n118 : Nat), ∃ (n119 : Nat), hc h112 (p113.add 8) = some (Value.slice o117 n118 n119) ∧ ∃ (o120 : Option Addr), ∃ (n121 : Nat), ∃ (n122 : Nat), hc h112 (p113.add 9) = some (Value.slice o120 n121 n122) ∧ ∃ (p123 : Addr), o55 = some p123 ∧ c_chip_Chip_State p123 (fun (o124 : Option Addr) (n125 n126 : Nat) (o127 : Option Addr) (n128 n129 : Nat) (o130 : Option Addr) (n131 n132 : Nat) (h133 : H) => hcs h133 (p113.add 7) [Value.slice o114 n115 n116, Value.slice o117 n118 n119, Value.slice o120 n121 n122] ∧ c_portcullisref04_SameState o124 n125 n126 o127 n128 n129 o130 n131 n132 o114 n115 n116 o117 n118 n119 o120 n121 n122 (fun (b134 : Bool) (h135 : H) => if (!b111) = true then Q false h135 else if (!b134) = true then Q false h135 else ∃ (p136 : Addr), o74 = some p136 ∧ ∃ (i137 : Int), hc h135 (p136.add 10) = some (Value.int IntKind.i64 i137) ∧ ∃ (p138 : Addr), o55 = some p138 ∧ c_chip_Chip_Acts p138 (fun (i139 : Int) (h140 : H) => hcs h140 (p136.add 10) [Value.int IntKind.i64 i137] ∧ if (i139 != i137) = true then Q false h140 else ∃ (p141 : Addr), o74 = some p141 ∧ ∃ (b142 : Bool), hc h140 (p141.add 11) = some (Value.bool b142) ∧ ∃ (p143 : Addr), o55 = some p143 ∧ c_chip_Chip_Out p143 (fun (b144 : Bool) (h145 : H) => hcs h145 (p141.add 11) [Value.bool b142] ∧ if (!b144 == b142) = true then Q false h145 else J97 [SV.dv (DV.one (Value.int IntKind.i64 (IntKind.i64.wrap (i98 + 1))))] h145) h140) h135) h133) h112) h101) → J100 [] h101) → if ltI i98 (↑a2l : Int) = true then if (!o74.isNone) = true then J100 [] h99 else Q true h99 else Q true h99) → J97 [SV.dv (DV.one (Value.int IntKind.i64 i98))] h99) → J97 [SV.dv (DV.one (Value.int IntKind.i64 0))] h96) → J95 [] h96) → if (!b37) = true then Q false h94 else if (!i91 == i93) = true then Q false h94 else if (i56 != i75) = true then Q false h94 else if (!o55.isNone == o74.isNone) = true then Q false h94 else J95 [] h94) h92) h76) h57) h38) h35
theorem E_portcullislaw14_AreaDoes (c_chip_Lay : Int → Int → Int → Int → Int → Int → Int → (Option Addr) → Nat → Nat → (Option Addr) → Nat → Nat → (Option Addr) → Nat → Nat → ((Option Addr) → Int → H → Prop) → H → Prop) (c_chip_Chip_State : Addr → ((Option Addr) → Nat → Nat → (Option Addr) → Nat → Nat → (Option Addr) → Nat → Nat → H → Prop) → H → Prop) (c_chip_Chip_Out : Addr → (Bool → H → Prop) → H → Prop) (c_portcullisref04_SameState : (Option Addr) → Nat → Nat → (Option Addr) → Nat → Nat → (Option Addr) → Nat → Nat → (Option Addr) → Nat → Nat → (Option Addr) → Nat → Nat → (Option Addr) → Nat → Nat → (Bool → H → Prop) → H → Prop) (c_chip_Chip_Acts : Addr → (Int → H → Prop) → H → Prop) (c_portcullisref04_Lay : Int → Int → Int → Int → Int → Int → Int → (Option Addr) → Nat → Nat → (Option Addr) → Nat → Nat → (Option Addr) → Nat → Nat → ((Option Addr) → Int → H → Prop) → H → Prop) (c_portcullislaw14_fixed : (Bool → H → Prop) → H → Prop) (c_area_Size : Int → Int → Int → Int → Int → Int → Int → (Int → H → Prop) → H → Prop) (c_portcullisref14_Size : Int → Int → Int → Int → Int → Int → Int → (Int → H → Prop) → H → Prop) (c_portcullislaw14_step : Addr → Addr → Int → Int → Int → (Option Addr) → Nat → Nat → (Bool → H → Prop) → H → Prop) : ∀ (a0_0 : Int) (a0_1 : Int) (a0_2 : Int) (a0_3 : Int) (a0_4 : Int) (a0_5 : Int) (a0_6 : Int) (a1_0p : Option Addr) (a1_0l : Nat) (a1_0c : Nat) (a1_1p : Option Addr) (a1_1l : Nat) (a1_1c : Nat) (a1_2p : Option Addr) (a1_2l : Nat) (a1_2c : Nat) (a2p : Option Addr) (a2l : Nat) (a2c : Nat) (Q : Bool → H → Prop) (h : H), G_portcullislaw14_AreaDoes c_chip_Lay c_chip_Chip_State c_chip_Chip_Out c_portcullisref04_SameState c_chip_Chip_Acts c_portcullisref04_Lay c_portcullislaw14_fixed c_area_Size c_portcullisref14_Size c_portcullislaw14_step a0_0 a0_1 a0_2 a0_3 a0_4 a0_5 a0_6 a1_0p a1_0l a1_0c a1_1p a1_1l a1_1c a1_2p a1_2l a1_2c a2p a2l a2c Q h = Dbody PP [(20, W [.ag [.int .i64, .int .i64, .int .i64, .int .i64, .int .i64, .int .i64, .int .i64], .ag [.slc, .slc, .slc]] [.ptr, .int .i64] c_chip_Lay), (22, W [.addr] [.ag [.slc, .slc, .slc]] c_chip_Chip_State), (25, W [.addr] [.bool] c_chip_Chip_Out), (26, W [.ag [.slc, .slc, .slc], .ag [.slc, .slc, .slc]] [.bool] c_portcullisref04_SameState), (27, W [.addr] [.int .i64] c_chip_Chip_Acts), (30, W [.ag [.int .i64, .int .i64, .int .i64, .int .i64, .int .i64, .int .i64, .int .i64], .ag [.slc, .slc, .slc]] [.ptr, .int .i64] c_portcullisref04_Lay), (53, W [] [.bool] c_portcullislaw14_fixed), (55, W [.ag [.int .i64, .int .i64, .int .i64, .int .i64, .int .i64, .int .i64, .int .i64]] [.int .i64] c_area_Size), (57, W [.ag [.int .i64, .int .i64, .int .i64, .int .i64, .int .i64, .int .i64, .int .i64]] [.int .i64] c_portcullisref14_Size), (58, W [.addr, .addr, .ag [.int .i64, .int .i64, .int .i64, .slc]] [.bool] c_portcullislaw14_step)] [(63, []), (1018, [(13, .sc (.int .i64))]), (2036, [])] Try.f13 [.agg [.c (.int .i64 a0_0), .c (.int .i64 a0_1), .c (.int .i64 a0_2), .c (.int .i64 a0_3), .c (.int .i64 a0_4), .c (.int .i64 a0_5), .c (.int .i64 a0_6)], .agg [.c (.slice a1_0p a1_0l a1_0c), .c (.slice a1_1p a1_1l a1_1c), .c (.slice a1_2p a1_2l a1_2c)], .one (.slice a2p a2l a2c)] (decR [.bool] Q) h := by intros; kernel_rfl
def F_portcullislaw14_AreaDoes := G_portcullislaw14_AreaDoes F_chip_Lay F_chip_Chip_State F_chip_Chip_Out F_portcullisref04_SameState F_chip_Chip_Acts F_portcullisref04_Lay F_portcullislaw14_fixed F_area_Size F_portcullisref14_Size F_portcullislaw14_step
theorem R_portcullislaw14_AreaDoes : RunOk PP 13 (W [.ag [.int .i64, .int .i64, .int .i64, .int .i64, .int .i64, .int .i64, .int .i64], .ag [.slc, .slc, .slc], .slc] [.bool] F_portcullislaw14_AreaDoes) := runOk_of (T := [(20, W [.ag [.int .i64, .int .i64, .int .i64, .int .i64, .int .i64, .int .i64, .int .i64], .ag [.slc, .slc, .slc]] [.ptr, .int .i64] F_chip_Lay), (22, W [.addr] [.ag [.slc, .slc, .slc]] F_chip_Chip_State), (25, W [.addr] [.bool] F_chip_Chip_Out), (26, W [.ag [.slc, .slc, .slc], .ag [.slc, .slc, .slc]] [.bool] F_portcullisref04_SameState), (27, W [.addr] [.int .i64] F_chip_Chip_Acts), (30, W [.ag [.int .i64, .int .i64, .int .i64, .int .i64, .int .i64, .int .i64, .int .i64], .ag [.slc, .slc, .slc]] [.ptr, .int .i64] F_portcullisref04_Lay), (53, W [] [.bool] F_portcullislaw14_fixed), (55, W [.ag [.int .i64, .int .i64, .int .i64, .int .i64, .int .i64, .int .i64, .int .i64]] [.int .i64] F_area_Size), (57, W [.ag [.int .i64, .int .i64, .int .i64, .int .i64, .int .i64, .int .i64, .int .i64]] [.int .i64] F_portcullisref14_Size), (58, W [.addr, .addr, .ag [.int .i64, .int .i64, .int .i64, .slc]] [.bool] F_portcullislaw14_step)]) (ann := [(63, []), (1018, [(13, .sc (.int .i64))]), (2036, [])]) (TblOk.cons R_chip_Lay (TblOk.cons R_chip_Chip_State (TblOk.cons R_chip_Chip_Out (TblOk.cons R_portcullisref04_SameState (TblOk.cons R_chip_Chip_Acts (TblOk.cons R_portcullisref04_Lay (TblOk.cons R_portcullislaw14_fixed (TblOk.cons R_area_Size (TblOk.cons R_portcullisref14_Size (TblOk.cons R_portcullislaw14_step (TblOk.nil))))))))))) Try.func13 (by kernel_rfl) (by kernel_rfl) (E_portcullislaw14_AreaDoes F_chip_Lay F_chip_Chip_State F_chip_Chip_Out F_portcullisref04_SameState F_chip_Chip_Acts F_portcullisref04_Lay F_portcullislaw14_fixed F_area_Size F_portcullisref14_Size F_portcullislaw14_step)
attribute [irreducible] F_portcullislaw14_AreaDoes
def G_chip_Lay_1 (a0p : Option Addr) (a0l : Nat) (a0c : Nat) (a1 : Addr) (Q : Bool → H → Prop) (h : H) : Prop := ∃ (i6 : Int), hc h a1 = some (Value.int IntKind.i64 i6) ∧ Q ((↑a0l : Int) != i6) h
theorem E_chip_Lay_1  : ∀ (a0p : Option Addr) (a0l : Nat) (a0c : Nat) (a1 : Addr) (Q : Bool → H → Prop) (h : H), G_chip_Lay_1 a0p a0l a0c a1 Q h = Dbody PP [] [] Try.f75 [.one (.slice a0p a0l a0c), .addr a1] (decR [.bool] Q) h := by intros; kernel_rfl
def F_chip_Lay_1 := G_chip_Lay_1
theorem R_chip_Lay_1 : RunOk PP 75 (W [.slc, .addr] [.bool] F_chip_Lay_1) := runOk_of (T := []) (ann := []) (TblOk.nil) Try.func75 (by kernel_rfl) (by kernel_rfl) (E_chip_Lay_1)
attribute [irreducible] F_chip_Lay_1
def G_chip_Lay_2 (a0 : Int) (Q : Bool → H → Prop) (h : H) : Prop := Q (ltI a0 0) h
theorem E_chip_Lay_2  : ∀ (a0 : Int) (Q : Bool → H → Prop) (h : H), G_chip_Lay_2 a0 Q h = Dbody PP [] [] Try.f77 [.one (.int .i64 a0)] (decR [.bool] Q) h := by intros; kernel_rfl
def F_chip_Lay_2 := G_chip_Lay_2
theorem R_chip_Lay_2 : RunOk PP 77 (W [.int .i64] [.bool] F_chip_Lay_2) := runOk_of (T := []) (ann := []) (TblOk.nil) Try.func77 (by kernel_rfl) (by kernel_rfl) (E_chip_Lay_2)
attribute [irreducible] F_chip_Lay_2
def G_chip_Chip_begins_1 (a0 : Int) (Q : Int → H → Prop) (h : H) : Prop := Q 255 h
theorem E_chip_Chip_begins_1  : ∀ (a0 : Int) (Q : Int → H → Prop) (h : H), G_chip_Chip_begins_1 a0 Q h = Dbody PP [] [] Try.f145 [.one (.int .i64 a0)] (decR [.int .u8] Q) h := by intros; kernel_rfl
def F_chip_Chip_begins_1 := G_chip_Chip_begins_1
theorem R_chip_Chip_begins_1 : RunOk PP 145 (W [.int .i64] [.int .u8] F_chip_Chip_begins_1) := runOk_of (T := []) (ann := []) (TblOk.nil) Try.func145 (by kernel_rfl) (by kernel_rfl) (E_chip_Chip_begins_1)
attribute [irreducible] F_chip_Chip_begins_1
def G_chip_Chip_begins_2 (a0 : Int) (a1 : Addr) (Q : Int → H → Prop) (h : H) : Prop := ∃ (o4 : Option Addr), ∃ (n5 : Nat), ∃ (n6 : Nat), hc h a1 = some (Value.slice o4 n5 n6) ∧ if ((↑n5 : Int) == 0) = true then Q 0 h else ∃ (o7 : Option Addr), ∃ (n8 : Nat), ∃ (n9 : Nat), hc h a1 = some (Value.slice o7 n8 n9) ∧ ∃ (o10 : Option Addr), ∃ (n11 : Nat), ∃ (n12 : Nat), hc h a1 = some (Value.slice o10 n11 n12) ∧ (↑n11 : Int) ≠ 0 ∧ ∃ (p13 : Addr), o7 = some p13 ∧ 0 ≤ a0.tmod (↑n11 : Int) ∧ a0.tmod (↑n11 : Int) < (↑n8 : Int) ∧ ∃ (i14 : Int), hc h (p13.add ((a0.tmod (↑n11 : Int)).toNat * 1)) = some (Value.int IntKind.u8 i14) ∧ Q i14 h
theorem E_chip_Chip_begins_2  : ∀ (a0 : Int) (a1 : Addr) (Q : Int → H → Prop) (h : H), G_chip_Chip_begins_2 a0 a1 Q h = Dbody PP [] [] Try.f146 [.one (.int .i64 a0), .addr a1] (decR [.int .u8] Q) h := by intros; kernel_rfl
def F_chip_Chip_begins_2 := G_chip_Chip_begins_2
theorem R_chip_Chip_begins_2 : RunOk PP 146 (W [.int .i64, .addr] [.int .u8] F_chip_Chip_begins_2) := runOk_of (T := []) (ann := []) (TblOk.nil) Try.func146 (by kernel_rfl) (by kernel_rfl) (E_chip_Chip_begins_2)
attribute [irreducible] F_chip_Chip_begins_2
end Go.Proofs.Ytamfkofcpoglnaa
end

/- Blocks of memory as lists of cells, and what loads, stores and allocations do to them. Own work; generic over any program. -/
section
set_option linter.unusedVariables false
namespace Go.Vc

/-- Block b holds just these cells, and none of them is frozen. -/
def Blk (h : H) (b : Nat) (vs : List Value) : Prop :=
  ∃ t lo hi, h[b]? = some (.cells vs.toArray t (lo, hi)) ∧ ∀ i, i < vs.length → ¬ (lo ≤ i ∧ i < hi)

abbrev at_ (b o : Nat) : Addr := ⟨b, o, none⟩

@[simp] theorem add_mk (b o n : Nat) : (Addr.mk b o none).add n = Addr.mk b (o + n) none := by
  unfold Addr.add; split
  · rename_i h; subst h; rfl
  · rfl

theorem Blk.lt {h : H} {b : Nat} {vs : List Value} (k : Blk h b vs) : b < h.size := by
  obtain ⟨t, lo, hi, hb, _⟩ := k
  exact (Array.getElem?_eq_some_iff.1 hb).1
theorem Blk.of_eq {h h' : H} {b : Nat} {vs : List Value} (k : Blk h b vs) (e : h'[b]? = h[b]?) : Blk h' b vs := by
  obtain ⟨t, lo, hi, hb, hf⟩ := k
  exact ⟨t, lo, hi, by rw [e]; exact hb, hf⟩

theorem Blk.hc {h : H} {b : Nat} {vs : List Value} (k : Blk h b vs) (o : Nat) : hc h ⟨b, o, none⟩ = vs[o]? := by
  obtain ⟨t, lo, hi, hb, _⟩ := k
  simp [Vc.hc, hb]
theorem Blk.hf {h : H} {b : Nat} {vs : List Value} (k : Blk h b vs) {o : Nat} (ho : o < vs.length) : hf h ⟨b, o, none⟩ = false := by
  obtain ⟨t, lo, hi, hb, hfz⟩ := k
  have := hfz o ho
  simp only [Vc.hf, hb]
  simp only [Bool.and_eq_false_imp, decide_eq_true_eq, decide_eq_false_iff_not]
  intro h1 h2; exact this ⟨h1, h2⟩
theorem Blk.can {h : H} {b : Nat} {vs : List Value} (k : Blk h b vs) {o n : Nat} (ho : o + n ≤ vs.length) : hcan h ⟨b, o, none⟩ n := by
  intro i hi
  have hl : o + i < vs.length := by omega
  rw [add_mk, k.hc, k.hf hl]
  simp [List.getElem?_eq_getElem hl]
theorem Blk.hcs {h : H} {b : Nat} {vs : List Value} (k : Blk h b vs) {o : Nat} {xs : List Value} (e : ∀ i, i < xs.length → vs[o + i]? = xs[i]?) : hcs h ⟨b, o, none⟩ xs := by
  intro i v hv
  rw [add_mk, k.hc, e i (List.getElem?_eq_some_iff.1 hv).1, hv]

/-! ### Writing -/
/-- Cells put in the place of others. -/
def splice (vs : List Value) : Nat → List Value → List Value
  | _, [] => vs
  | o, x :: r => splice (vs.set o x) (o + 1) r
@[simp] theorem splice_nil (vs : List Value) (o : Nat) : splice vs o [] = vs := rfl
@[simp] theorem splice_cons (vs : List Value) (o : Nat) (x : Value) (r : List Value) : splice vs o (x :: r) = splice (vs.set o x) (o + 1) r := rfl
@[simp] theorem splice_length (vs : List Value) (o : Nat) (xs : List Value) : (splice vs o xs).length = vs.length := by
  induction xs generalizing vs o with
  | nil => rfl
  | cons x r ih => simp [ih]
theorem splice_get (vs : List Value) (o : Nat) (xs : List Value) (i : Nat) : (splice vs o xs)[i]? = if o ≤ i ∧ i < o + xs.length ∧ i < vs.length then xs[i - o]? else vs[i]? := by
  induction xs generalizing vs o with
  | nil =>
    have : ¬ (o ≤ i ∧ i < o + ([] : List Value).length ∧ i < vs.length) := by simp; omega
    rw [if_neg this]; rfl
  | cons x r ih =>
    rw [splice_cons, ih]
    simp only [List.length_cons, List.length_set]
    by_cases h1 : o = i
    · subst h1
      rw [if_neg (by omega)]
      by_cases h2 : o < vs.length
      · rw [if_pos (by omega)]; simp [h2]
      · rw [if_neg (by omega)]
        have : (vs.set o x) = vs := List.set_eq_of_length_le (by omega)
        rw [this]
    · rw [List.getElem?_set_ne h1]
      by_cases h2 : o + 1 ≤ i ∧ i < o + 1 + r.length ∧ i < vs.length
      · rw [if_pos h2, if_pos (by omega)]
        have : i - o = (i - (o + 1)) + 1 := by omega
        rw [this]; simp
      · rw [if_neg h2, if_neg (by omega)]
theorem splice_all (vs xs : List Value) (h : xs.length = vs.length) : splice vs 0 xs = xs := by
  apply List.ext_getElem?
  intro i
  rw [splice_get]
  split
  · simp
  · rename_i hn
    rw [List.getElem?_eq_none (by omega), List.getElem?_eq_none (by omega)]
theorem splice_append (a b c xs : List Value) (h : xs.length = b.length) : splice (a ++ b ++ c) a.length xs = a ++ xs ++ c := by
  apply List.ext_getElem?
  intro i
  rw [splice_get]
  simp only [List.length_append]
  split
  · rename_i hh
    rw [List.append_assoc, List.getElem?_append_right hh.1, List.getElem?_append_left (by omega)]
  · rename_i hh
    rw [List.append_assoc, List.append_assoc]
    by_cases h1 : i < a.length
    · rw [List.getElem?_append_left h1, List.getElem?_append_left h1]
    · rw [List.getElem?_append_right (by omega), List.getElem?_append_right (by omega)]
      by_cases h2 : i - a.length < b.length
      · omega
      · rw [List.getElem?_append_right (by omega), List.getElem?_append_right (by omega), h]

theorem hs_eq {h : H} {b : Nat} {vs : List Value} (k : Blk h b vs) (o : Nat) (v : Value) : Blk (hs h ⟨b, o, none⟩ v) b (vs.set o v) := by
  obtain ⟨t, lo, hi, hb, hfz⟩ := k
  refine ⟨t, lo, hi, ?_, by simpa using hfz⟩
  simp only [hs, Array.getElem?_modify, hb]
  simp
theorem hs_ne (h : H) (a : Addr) (v : Value) {x : Nat} (hx : x ≠ a.block) : (hs h a v)[x]? = h[x]? := by
  simp only [hs, Array.getElem?_modify]
  rw [if_neg (by omega)]
theorem hs_size (h : H) (a : Addr) (v : Value) : (hs h a v).size = h.size := by simp [hs]
theorem hwrFrom_blk {h : H} {b : Nat} {vs : List Value} (k : Blk h b vs) (o : Nat) (xs : List Value) (j : Nat) : Blk (hwrFrom h ⟨b, o, none⟩ j xs) b (splice vs (o + j) xs) := by
  induction xs generalizing h vs j with
  | nil => exact k
  | cons x r ih =>
    simp only [hwrFrom, splice_cons, add_mk]
    exact ih (hs_eq k (o + j) x) (j + 1)
theorem add_block (a : Addr) (n : Nat) : (a.add n).block = a.block := by unfold Addr.add; split <;> rfl
theorem hwrFrom_ne (h : H) (a : Addr) (j : Nat) (xs : List Value) {x : Nat} (hx : x ≠ a.block) : (hwrFrom h a j xs)[x]? = h[x]? := by
  induction xs generalizing h j with
  | nil => rfl
  | cons y r ih => simp only [hwrFrom]; rw [ih, hs_ne]; rw [add_block]; exact hx
theorem hwrFrom_size (h : H) (a : Addr) (j : Nat) (xs : List Value) : (hwrFrom h a j xs).size = h.size := by
  induction xs generalizing h j with
  | nil => rfl
  | cons y r ih => simp only [hwrFrom]; rw [ih, hs_size]
theorem Blk.wr {h : H} {b : Nat} {vs : List Value} (k : Blk h b vs) (o : Nat) (xs : List Value) : Blk (hwr h ⟨b, o, none⟩ xs) b (splice vs o xs) := hwrFrom_blk k o xs 0
theorem hwr_ne (h : H) (a : Addr) (xs : List Value) {x : Nat} (hx : x ≠ a.block) : (hwr h a xs)[x]? = h[x]? := hwrFrom_ne h a 0 xs hx
theorem hwr_size (h : H) (a : Addr) (xs : List Value) : (hwr h a xs).size = h.size := hwrFrom_size h a 0 xs
theorem Blk.wr_ne {h : H} {b : Nat} {vs : List Value} (k : Blk h b vs) {a : Addr} {xs : List Value} (hx : b ≠ a.block) : Blk (hwr h a xs) b vs := k.of_eq (hwr_ne h a xs hx)

/-! ### What is left alone -/
/-- From h to h' only these blocks, and new ones, may differ. -/
structure Ext (S : Nat → Prop) (h h' : H) : Prop where
  size : h.size ≤ h'.size
  eq : ∀ b, b < h.size → ¬ S b → h'[b]? = h[b]?
abbrev none_ : Nat → Prop := fun _ => False
theorem Ext.refl (S : Nat → Prop) (h : H) : Ext S h h := ⟨Nat.le_refl _, fun _ _ _ => rfl⟩
theorem Ext.trans {S : Nat → Prop} {h h' h'' : H} (a : Ext S h h') (b : Ext S h' h'') : Ext S h h'' :=
  ⟨Nat.le_trans a.size b.size, fun x hx hs => by rw [b.eq x (Nat.lt_of_lt_of_le hx a.size) hs, a.eq x hx hs]⟩
theorem Ext.mono {S T : Nat → Prop} {h h' : H} (a : Ext S h h') (st : ∀ b, b < h.size → S b → T b) : Ext T h h' :=
  ⟨a.size, fun x hx hs => a.eq x hx fun h => hs (st x hx h)⟩
/-- A change of blocks that are new, or allowed, is no change of old ones. -/
theorem Ext.comp {S T : Nat → Prop} {h h' h'' : H} (a : Ext S h h') (b : Ext T h' h'') (st : ∀ x, x < h.size → T x → S x) : Ext S h h'' :=
  ⟨Nat.le_trans a.size b.size, fun x hx hs => by rw [b.eq x (Nat.lt_of_lt_of_le hx a.size) (fun t => hs (st x hx t)), a.eq x hx hs]⟩
theorem Ext.blk {S : Nat → Prop} {h h' : H} (a : Ext S h h') {b : Nat} {vs : List Value} (k : Blk h b vs) (hb : ¬ S b) : Blk h' b vs := k.of_eq (a.eq b k.lt hb)
theorem Ext.wr (h : H) (b o : Nat) (xs : List Value) : Ext (fun x => x = b) h (hwr h ⟨b, o, none⟩ xs) :=
  ⟨by rw [hwr_size]; exact Nat.le_refl _, fun x _ hx => hwr_ne h _ xs hx⟩
theorem hnew.size {h h' : H} {b : Nat} {c : List Value} (n : hnew h b c h') : h'.size = h.size + 1 := by
  obtain ⟨_, t, lo, hi, _, rfl⟩ := n; simp
theorem hnew.b {h h' : H} {b : Nat} {c : List Value} (n : hnew h b c h') : b = h.size := n.1
theorem hnew.ext {h h' : H} {b : Nat} {c : List Value} (n : hnew h b c h') : Ext none_ h h' := by
  refine ⟨by rw [n.size]; omega, ?_⟩
  obtain ⟨_, t, lo, hi, _, rfl⟩ := n
  intro x hx _
  rw [Array.getElem?_push]; rw [if_neg (by omega)]
theorem hnew.blk {h h' : H} {b : Nat} {c : List Value} (n : hnew h b c h') : Blk h' b c := by
  obtain ⟨rfl, t, lo, hi, hf, rfl⟩ := n
  exact ⟨t, lo, hi, by simp, hf⟩
theorem Blk.ne {h : H} {b b' : Nat} {vs vs' : List Value} (k : Blk h b vs) (k' : ¬ b' < h.size) : b ≠ b' := fun e => k' (e ▸ k.lt)

/-! ### Rows of integers -/
@[simp] theorem ints_nil (k : IntKind) : ints k [] = [] := rfl
@[simp] theorem ints_cons (k : IntKind) (n : Int) (r : List Int) : ints k (n :: r) = .int k n :: ints k r := rfl
@[simp] theorem ints_length (k : IntKind) (ns : List Int) : (ints k ns).length = ns.length := by simp [ints]
@[simp] theorem ints_append (k : IntKind) (a b : List Int) : ints k (a ++ b) = ints k a ++ ints k b := by simp [ints]
theorem ints_get (k : IntKind) (ns : List Int) (i : Nat) : (ints k ns)[i]? = ns[i]?.map (Value.int k) := by simp [ints]
@[simp] theorem zeros_length (n : Nat) : (zeros n).length = n := by simp [zeros]
theorem Blk.hrow {h : H} {b : Nat} {vs : List Value} (k : Blk h b vs) {o : Nat} {kd : IntKind} {ns : List Int} (e : ∀ i, i < ns.length → vs[o + i]? = ns[i]?.map (Value.int kd)) : hrow h ⟨b, o, none⟩ kd ns := by
  apply k.hcs
  intro i hi
  rw [e i (by simpa using hi), ints_get]
@[simp] theorem oneCell_int (k : IntKind) (n : Int) : (Value.int k n).oneCell' = true := rfl
end Go.Vc
end

/- Slices: what they hold, who owns it, and appending. Own work; generic over any program. -/
section
set_option linter.unusedVariables false
namespace Go.Vc

theorem hc_congr {h h' : H} {a : Addr} (e : h'[a.block]? = h[a.block]?) : hc h' a = hc h a := by simp only [hc, e]
theorem hc_lt {h : H} {a : Addr} {v : Value} (e : hc h a = some v) : a.block < h.size := by
  rcases Nat.lt_or_ge a.block h.size with k | k
  · exact k
  · simp [hc, Array.getElem?_eq_none k] at e
theorem hc_ext {S : Nat → Prop} {h h' : H} (x : Ext S h h') {a : Addr} {v : Value} (e : hc h a = some v) (hs : ¬ S a.block) : hc h' a = some v := by
  rw [hc_congr (x.eq _ (hc_lt e) hs), e]
theorem hcs_ext {S : Nat → Prop} {h h' : H} (x : Ext S h h') {a : Addr} {vs : List Value} (e : hcs h a vs) (hs : ¬ S a.block) : hcs h' a vs := by
  intro i v hv
  exact hc_ext x (e i v hv) (by rw [add_block]; exact hs)
theorem hsv_ext {S : Nat → Prop} {h h' : H} (x : Ext S h h') {p : Option Addr} {sz l : Nat} {vs : List Value} (e : hsv h p sz l vs) (hs : ∀ q, p = some q → ¬ S q.block) : hsv h' p sz l vs := by
  obtain ⟨h1, h2, h3⟩ := e
  refine ⟨h1, h2, ?_⟩
  rcases h3 with h3 | ⟨q, hq, h3⟩
  · exact Or.inl h3
  · exact Or.inr ⟨q, hq, hcs_ext x h3 (hs q hq)⟩
theorem hsv_none {h : H} {sz l : Nat} {vs : List Value} (e : hsv h none sz l vs) : vs = [] := by
  obtain ⟨_, _, h3⟩ := e
  rcases h3 with h3 | ⟨q, hq, _⟩
  · exact h3
  · cases hq
theorem hsv_get {h : H} {p : Option Addr} {sz l : Nat} {vs : List Value} (e : hsv h p sz l vs) {i : Nat} {v : Value} (hi : vs[i]? = some v) : ∃ q, p = some q ∧ hc h (q.add i) = some v := by
  obtain ⟨_, _, h3⟩ := e
  rcases h3 with h3 | ⟨q, hq, h3⟩
  · subst h3; simp at hi
  · exact ⟨q, hq, h3 i v hi⟩
/-- A slice whose cells lie at the head of a block of their own (bs: that block, if there is one). -/
def OwnS (h : H) (p : Option Addr) (l c sz : Nat) (vs : List Value) (bs : List Nat) : Prop :=
  vs.length = l * sz ∧ l ≤ c ∧ (∀ v, v ∈ vs → v.oneCell' = true) ∧
    ((l = 0 ∧ c = 0 ∧ bs = []) ∨ ∃ b rest, p = some ⟨b, 0, none⟩ ∧ bs = [b] ∧ Blk h b (vs ++ rest) ∧ (c - l) * sz ≤ rest.length)
theorem OwnS.hsv {h : H} {p : Option Addr} {l c sz : Nat} {vs : List Value} {bs : List Nat} (o : OwnS h p l c sz vs bs) : hsv h p sz l vs := by
  obtain ⟨h1, h2, h3, h4⟩ := o
  refine ⟨h1, h3, ?_⟩
  rcases h4 with ⟨rfl, _, _⟩ | ⟨b, rest, rfl, _, k, _⟩
  · left; apply List.eq_nil_of_length_eq_zero; simp [h1]
  · right
    exact ⟨_, rfl, k.hcs fun i hi => by rw [Nat.zero_add, List.getElem?_append_left hi]⟩
theorem OwnS.lt {h : H} {p : Option Addr} {l c sz : Nat} {vs : List Value} {bs : List Nat} (o : OwnS h p l c sz vs bs) : ∀ b, b ∈ bs → b < h.size := by
  obtain ⟨_, _, _, h4⟩ := o
  rcases h4 with ⟨_, _, rfl⟩ | ⟨b, rest, _, rfl, k, _⟩
  · intro b hb; simp at hb
  · intro b' hb; simp at hb; subst hb; exact k.lt
theorem OwnS.ext {S : Nat → Prop} {h h' : H} (x : Ext S h h') {p : Option Addr} {l c sz : Nat} {vs : List Value} {bs : List Nat} (o : OwnS h p l c sz vs bs) (hs : ∀ b, b ∈ bs → ¬ S b) : OwnS h' p l c sz vs bs := by
  obtain ⟨h1, h2, h3, h4⟩ := o
  refine ⟨h1, h2, h3, ?_⟩
  rcases h4 with h4 | ⟨b, rest, hp, rfl, k, hr⟩
  · exact Or.inl h4
  · exact Or.inr ⟨b, rest, hp, rfl, x.blk k (hs b (by simp)), hr⟩
theorem OwnS.nil (h : H) (p : Option Addr) (sz : Nat) : OwnS h p 0 0 sz [] [] := ⟨by simp, Nat.le_refl _, by simp, Or.inl ⟨rfl, rfl, rfl⟩⟩

theorem flatten_replicate_length {α : Type} (n : Nat) (z : List α) : (List.replicate n z).flatten.length = n * z.length := by
  induction n with
  | zero => simp
  | succ n ih => simp [List.replicate_succ, Nat.succ_mul, ih]; omega

/-- Blocks that are new. -/
def newB (h : H) (bs : List Nat) : Prop := ∀ b, b ∈ bs → h.size ≤ b
theorem newB.ext {S : Nat → Prop} {h h' : H} (x : Ext S h h') {bs : List Nat} (n : newB h' bs) : newB h bs := fun b hb => Nat.le_trans x.size (n b hb)

/-- Cells are appended to an empty slice without room. -/
theorem pApp_empty {h : H} {sz : Nat} {z : List Value} {B : Nat} {p : Option Addr} {n : Nat} {vs : List Value} {K : Option Addr → Nat → Nat → H → Prop}
    (hl : vs.length = n * sz) (hz : z.length = sz) (hv : ∀ v, v ∈ vs → v.oneCell' = true) (hb : n * B ≤ 2 ^ 47)
    (hk : ∀ p' c' h' bs, Ext none_ h h' → OwnS h' p' n c' sz vs bs → newB h bs → K p' n c' h') : pApp h sz z B p 0 0 n vs K := by
  unfold pApp
  by_cases hn : n = 0
  · subst hn
    have hv0 : vs = [] := List.eq_nil_of_length_eq_zero (by simp [hl])
    subst hv0
    rw [if_pos (by simp)]
    refine ⟨Or.inl rfl, fun h' e => ?_⟩
    have e' : h' = h := by rw [e]; cases p <;> rfl
    subst e'
    exact hk _ _ _ [] (Ext.refl _ _) (OwnS.nil _ _ _) (by intro b hb; simp at hb)
  · rw [if_neg (by omega)]
    refine ⟨by simpa using hb, [], ⟨by simp, by simp, Or.inl rfl⟩, fun c' b h' hc hw => ?_⟩
    have : (0 + n) = n := by omega
    rw [this] at hc ⊢
    refine hk _ _ _ [b] hw.ext ⟨hl, hc, hv, Or.inr ⟨b, (List.replicate (c' - (0 + n)) z).flatten, rfl, rfl, ?_, ?_⟩⟩ ?_
    · simpa using hw.blk
    · rw [flatten_replicate_length, hz, this]; exact Nat.le_refl _
    · intro x hx; simp at hx; subst hx; rw [hw.b]; exact Nat.le_refl _

/-- Cells are appended to a slice that is owned. -/
theorem pApp_own {h : H} {sz : Nat} {z : List Value} {B : Nat} {p : Option Addr} {l c n : Nat} {old vs : List Value} {bs : List Nat} {K : Option Addr → Nat → Nat → H → Prop}
    (o : OwnS h p l c sz old bs) (hl : vs.length = n * sz) (hz : z.length = sz) (hv : ∀ v, v ∈ vs → v.oneCell' = true) (hb : (l + n) * B ≤ 2 ^ 47)
    (hk : ∀ p' c' h' bs', Ext (fun b => b ∈ bs) h h' → OwnS h' p' (l + n) c' sz (old ++ vs) bs' → (∀ b, b ∈ bs' → b ∈ bs ∨ h.size ≤ b) → K p' (l + n) c' h') : pApp h sz z B p l c n vs K := by
  have ohs := o.hsv
  have olt := o.lt
  obtain ⟨h1, h2, h3, h4⟩ := o
  have hov : ∀ v, v ∈ old ++ vs → v.oneCell' = true := by
    intro v hm; rcases List.mem_append.1 hm with hm | hm
    · exact h3 v hm
    · exact hv v hm
  have hlen : (old ++ vs).length = (l + n) * sz := by simp [h1, hl, Nat.add_mul]
  unfold pApp
  split
  · rename_i hroom
    rcases h4 with ⟨rfl, rfl, rfl⟩ | ⟨b, rest, rfl, rfl, k, hr⟩
    · have hn : n = 0 := by omega
      subst hn
      have hv0 : vs = [] := List.eq_nil_of_length_eq_zero (by simp [hl])
      have ho0 : old = [] := List.eq_nil_of_length_eq_zero (by simp [h1])
      subst hv0; subst ho0
      refine ⟨Or.inl rfl, fun h' e => ?_⟩
      have e' : h' = h := by rw [e]; cases p <;> rfl
      subst e'
      exact hk _ _ _ [] (Ext.refl _ _) (OwnS.nil _ _ _) (by intro b hb; simp at hb)
    · have hnr : n * sz ≤ rest.length := by
        have : n * sz ≤ (c - l) * sz := Nat.mul_le_mul_right _ (by omega)
        omega
      refine ⟨Or.inr ⟨_, rfl, ?_⟩, fun h' e => ?_⟩
      · rw [add_mk]; apply k.can; simp [h1]; omega
      · simp only [Option.map_some, hwrO, add_mk, Nat.zero_add] at e
        have hs : splice (old ++ rest) (l * sz) vs = (old ++ vs) ++ rest.drop (n * sz) := by
          have : old ++ rest = old ++ rest.take (n * sz) ++ rest.drop (n * sz) := by simp
          rw [this, ← h1, splice_append]
          simp [hl, Nat.min_eq_left hnr]
        have kb := k.wr (l * sz) vs
        rw [hs] at kb
        subst e
        refine hk _ _ _ [b] ⟨by rw [hwr_size]; exact Nat.le_refl _, fun x _ hx => hwr_ne _ _ _ (by simpa using hx)⟩ ⟨hlen, hroom, hov, Or.inr ⟨b, rest.drop (n * sz), rfl, rfl, kb, ?_⟩⟩ (fun x hx => Or.inl hx)
        simp
        have : c - (l + n) = (c - l) - n := by omega
        rw [this, Nat.sub_mul]; omega
  · rename_i hroom
    refine ⟨hb, old, ohs, fun c' b h' hc hw => ?_⟩
    refine hk _ _ _ [b] (hw.ext.mono fun _ _ hf => hf.elim) ⟨hlen, hc, hov, Or.inr ⟨b, (List.replicate (c' - (l + n)) z).flatten, rfl, rfl, ?_, ?_⟩⟩ ?_
    · exact hw.blk
    · rw [flatten_replicate_length, hz]; exact Nat.le_refl _
    · intro x hx; simp at hx; subst hx; right; rw [hw.b]; exact Nat.le_refl _
end Go.Vc
end

/- Loops that count up. Own work; generic over any program. -/
section
set_option linter.unusedVariables false
namespace Go.Vc
abbrev si (i : Nat) : SV := .dv (.one (.int .i64 (i : Int)))
theorem loop_up {J : List SV → H → Prop} (N : Nat) (Inv : Nat → H → Prop) (step : ∀ i h, i < N → Inv i h → (∀ h', Inv (i + 1) h' → J [si (i + 1)] h') → J [si i] h)
    (exit : ∀ h, Inv N h → J [si N] h) (i : Nat) (h : H) (hi : i ≤ N) (inv : Inv i h) : J [si i] h := by
  generalize e : N - i = n
  induction n generalizing i h with
  | zero =>
    have : i = N := by omega
    subst this; exact exit h inv
  | succ n ih => exact step i h (by omega) inv fun h' inv' => ih (i + 1) h' (by omega) inv' (by omega)
theorem wrap_succ {i : Nat} (h : i < 2 ^ 62) : IntKind.i64.wrap ((i : Int) + 1) = ((i + 1 : Nat) : Int) := by
  rw [IntKind.wrap_i64]; omega
theorem wrap_id {n : Int} (h : -(2 ^ 62) ≤ n ∧ n ≤ 2 ^ 62) : IntKind.i64.wrap n = n := by
  rw [IntKind.wrap_i64]; omega
theorem wrap_u8_id {n : Int} (h : 0 ≤ n ∧ n < 256) : IntKind.u8.wrap n = n := by
  rw [IntKind.wrap_u8]; omega

/-- The first i entries are mapped. -/
def mapTo (g : Nat → Int → Int) (i : Nat) (ns : List Int) : List Int := ns.mapIdx fun j v => if j < i then g j v else v
@[simp] theorem mapTo_length (g : Nat → Int → Int) (i : Nat) (ns : List Int) : (mapTo g i ns).length = ns.length := by simp [mapTo]
theorem mapTo_get (g : Nat → Int → Int) (i : Nat) (ns : List Int) (j : Nat) : (mapTo g i ns)[j]? = ns[j]?.map fun v => if j < i then g j v else v := by simp [mapTo]
@[simp] theorem mapTo_zero (g : Nat → Int → Int) (ns : List Int) : mapTo g 0 ns = ns := by
  apply List.ext_getElem?; intro j; rw [mapTo_get]; simp
theorem mapTo_succ (g : Nat → Int → Int) (i : Nat) (ns : List Int) (hi : i < ns.length) : (mapTo g i ns).set i (g i ns[i]) = mapTo g (i + 1) ns := by
  apply List.ext_getElem?; intro j
  by_cases h : i = j
  · subst h; rw [List.getElem?_set_self (by simpa using hi), mapTo_get]; simp [hi]
  · rw [List.getElem?_set_ne h, mapTo_get, mapTo_get]
    congr 1; funext v
    by_cases h1 : j < i
    · rw [if_pos h1, if_pos (by omega)]
    · rw [if_neg h1, if_neg (by omega)]
theorem ints_set (k : IntKind) (ns : List Int) (i : Nat) (n : Int) : (ints k ns).set i (.int k n) = ints k (ns.set i n) := by simp [ints, List.map_set]
end Go.Vc
end

/- Assertions: a list of things that own blocks, none twice; all else is as it was in a base heap. Own work; generic over any program. -/
section
set_option linter.unusedVariables false
namespace Go.Vc

@[simp] theorem oneCell_slice (p : Option Addr) (l c : Nat) : (Value.slice p l c).oneCell' = true := rfl
@[simp] theorem oneCell_bool (b : Bool) : (Value.bool b).oneCell' = true := rfl
@[simp] theorem oneCell_ptr (p : Option Addr) : (Value.pointer p).oneCell' = true := rfl
@[simp] theorem oneCell_str (s : ByteArray) : (Value.string s).oneCell' = true := rfl

inductive Tag where
  | blk (b : Nat) (vs : List Value)
  | sl (p : Option Addr) (l c sz : Nat) (vs : List Value)
  | of (n : Nat)

/-- Something that lies in memory: what it says of a heap and of the blocks that it owns. -/
structure Ent where
  tag : Tag
  P : H → (Nat → Prop) → Prop
  st : ∀ {h h' : H} {f : Nat → Prop}, P h f → (∀ b, f b → h'[b]? = h[b]?) → P h' f
  lt : ∀ {h : H} {f : Nat → Prop} {b : Nat}, P h f → f b → b < h.size

def SatX : List Ent → H → (Nat → Prop) → Prop
  | [], _, O => ∀ b, ¬ O b
  | e :: A, h, O => ∃ f g, e.P h f ∧ SatX A h g ∧ (∀ b, f b → ¬ g b) ∧ (∀ b, O b ↔ f b ∨ g b)

theorem SatX.st {A : List Ent} {h h' : H} {O : Nat → Prop} (s : SatX A h O) (e : ∀ b, O b → h'[b]? = h[b]?) : SatX A h' O := by
  induction A generalizing O with
  | nil => exact s
  | cons x A ih =>
    obtain ⟨f, g, hp, hg, hd, ho⟩ := s
    exact ⟨f, g, x.st hp fun b hb => e b ((ho b).2 (Or.inl hb)), ih hg fun b hb => e b ((ho b).2 (Or.inr hb)), hd, ho⟩
theorem SatX.lt {A : List Ent} {h : H} {O : Nat → Prop} (s : SatX A h O) {b : Nat} (hb : O b) : b < h.size := by
  induction A generalizing O with
  | nil => exact absurd hb (s b)
  | cons x A ih =>
    obtain ⟨f, g, hp, hg, hd, ho⟩ := s
    rcases (ho b).1 hb with k | k
    · exact x.lt hp k
    · exact ih hg k
theorem SatX.iff {A : List Ent} {h : H} {O O' : Nat → Prop} (s : SatX A h O) (e : ∀ b, O b ↔ O' b) : SatX A h O' := by
  have : O = O' := funext fun b => propext (e b)
  exact this ▸ s
theorem SatX.append {A B : List Ent} {h : H} {O : Nat → Prop} : SatX (A ++ B) h O ↔ ∃ f g, SatX A h f ∧ SatX B h g ∧ (∀ b, f b → ¬ g b) ∧ (∀ b, O b ↔ f b ∨ g b) := by
  induction A generalizing O with
  | nil =>
    constructor
    · intro s; exact ⟨fun _ => False, O, fun _ x => x, s, fun _ x => x.elim, fun b => by simp⟩
    · rintro ⟨f, g, hf, hg, _, ho⟩
      refine hg.iff fun b => ?_
      rw [ho]; constructor
      · exact Or.inr
      · rintro (k | k)
        · exact absurd k (hf b)
        · exact k
  | cons x A ih =>
    constructor
    · rintro ⟨f, g, hp, hg, hd, ho⟩
      obtain ⟨f', g', h1, h2, h3, h4⟩ := ih.1 hg
      refine ⟨fun b => f b ∨ f' b, g', ⟨f, f', hp, h1, fun b k k' => hd b k ((h4 b).2 (Or.inl k')), fun b => Iff.rfl⟩, h2, ?_, ?_⟩
      · rintro b (k | k) k'
        · exact hd b k ((h4 b).2 (Or.inr k'))
        · exact h3 b k k'
      · intro b; rw [ho, h4, or_assoc]
    · rintro ⟨f, g, ⟨f1, f2, hp, h1, h2, h3⟩, hg, hd, ho⟩
      refine ⟨f1, fun b => f2 b ∨ g b, hp, ih.2 ⟨f2, g, h1, hg, fun b k k' => hd b ((h3 b).2 (Or.inr k)) k', fun b => Iff.rfl⟩, ?_, ?_⟩
      · rintro b k (k' | k')
        · exact h2 b k k'
        · exact hd b ((h3 b).2 (Or.inl k)) k'
      · intro b; rw [ho, h3, or_assoc]

/-- The thing at a place of the list. -/
inductive At : List Ent → Nat → Ent → Prop where
  | z {A : List Ent} {e : Ent} : At (e :: A) 0 e
  | s {A : List Ent} {e x : Ent} {i : Nat} : At A i e → At (x :: A) (i + 1) e
def put : List Ent → Nat → Ent → List Ent
  | [], _, _ => []
  | _ :: A, 0, e => e :: A
  | x :: A, i + 1, e => x :: put A i e
@[simp] theorem put_zero (x e : Ent) (A : List Ent) : put (x :: A) 0 e = e :: A := rfl
@[simp] theorem put_succ (x e : Ent) (A : List Ent) (i : Nat) : put (x :: A) (i + 1) e = x :: put A i e := rfl
theorem At.put {A : List Ent} {i : Nat} {e : Ent} (a : At A i e) (x : Ent) : At (Vc.put A i x) i x := by
  induction a with
  | z => exact .z
  | s _ ih => exact .s ih
@[simp] theorem put_put (A : List Ent) (i : Nat) (x y : Ent) : put (put A i x) i y = put A i y := by
  induction A generalizing i with
  | nil => rfl
  | cons a A ih => cases i with
    | zero => rfl
    | succ i => simp [ih]
theorem At.put_self {A : List Ent} {i : Nat} {e : Ent} (a : At A i e) : Vc.put A i e = A := by
  induction a with
  | z => rfl
  | s _ ih => simp [ih]

/-- A thing taken out of the list, and another one put in its place. -/
theorem SatX.take {A : List Ent} {i : Nat} {e : Ent} (a : At A i e) {h : H} {O : Nat → Prop} (s : SatX A h O) :
    ∃ f g : Nat → Prop, e.P h f ∧ (∀ b, f b → ¬ g b) ∧ (∀ b, O b ↔ f b ∨ g b) ∧
      ∀ (e' : Ent) (h' : H) (f' : Nat → Prop), e'.P h' f' → (∀ b, g b → h'[b]? = h[b]?) → (∀ b, f' b → ¬ g b) → SatX (Vc.put A i e') h' (fun b => f' b ∨ g b) := by
  induction a generalizing O with
  | z =>
    obtain ⟨f, g, hp, hg, hd, ho⟩ := s
    exact ⟨f, g, hp, hd, ho, fun e' h' f' hp' hsame hd' => ⟨f', g, hp', hg.st hsame, hd', fun b => Iff.rfl⟩⟩
  | s a ih =>
    obtain ⟨f, g, hp, hg, hd, ho⟩ := s
    obtain ⟨f1, g1, h1, h2, h3, h4⟩ := ih hg
    refine ⟨f1, fun b => f b ∨ g1 b, h1, ?_, ?_, ?_⟩
    · rintro b k (k' | k')
      · exact hd b k' ((h3 b).2 (Or.inl k))
      · exact h2 b k k'
    · intro b; rw [ho, h3]; constructor
      · rintro (k | k | k) <;> simp [k]
      · rintro (k | k | k) <;> simp [k]
    · intro e' h' f' hp' hsame hd'
      refine ⟨f, fun b => f' b ∨ g1 b, Ent.st _ hp fun b k => hsame b (Or.inl k), h4 e' h' f' hp' (fun b k => hsame b (Or.inr k)) (fun b k k' => hd' b k (Or.inr k')), ?_, ?_⟩
      · rintro b k (k' | k')
        · exact hd' b k' (Or.inl k)
        · exact hd b k ((h3 b).2 (Or.inr k'))
      · intro b; constructor
        · rintro (k | k | k) <;> simp [k]
        · rintro (k | k | k) <;> simp [k]

/-! ### With a base -/
/-- The things lie in new blocks; all blocks of the base heap are as they were. -/
def Sat (h0 : H) (A : List Ent) (h : H) : Prop := Ext none_ h0 h ∧ ∃ O, SatX A h O ∧ ∀ b, O b → h0.size ≤ b

theorem Sat.init (h : H) : Sat h [] h := ⟨Ext.refl _ _, fun _ => False, fun _ x => x, fun _ x => x.elim⟩
theorem Sat.ex {h0 h : H} {A : List Ent} (s : Sat h0 A h) : Ext none_ h0 h := s.1
theorem Sat.ext {h0 h h' : H} {A : List Ent} (s : Sat h0 A h) (x : Ext none_ h h') : Sat h0 A h' := by
  obtain ⟨s1, O, s2, s3⟩ := s
  exact ⟨s1.trans x, O, s2.st fun b hb => x.eq b (s2.lt hb) (fun y => y), s3⟩
theorem Sat.add {h0 h h' : H} {A : List Ent} (s : Sat h0 A h) (x : Ext none_ h h') {e : Ent} {f : Nat → Prop} (p : e.P h' f) (n : ∀ b, f b → h.size ≤ b) : Sat h0 (e :: A) h' := by
  obtain ⟨s1, O, s2, s3⟩ := s
  refine ⟨s1.trans x, fun b => f b ∨ O b, ⟨f, O, p, s2.st fun b hb => x.eq b (s2.lt hb) (fun y => y), ?_, fun b => Iff.rfl⟩, ?_⟩
  · intro b k k'; have := n b k; have := s2.lt k'; omega
  · rintro b (k | k)
    · have := n b k; have := s1.size; omega
    · exact s3 b k
theorem Sat.drop {h0 h : H} {A : List Ent} {e : Ent} (s : Sat h0 (e :: A) h) : Sat h0 A h := by
  obtain ⟨s1, O, ⟨f, g, _, hg, _, ho⟩, s3⟩ := s
  exact ⟨s1, g, hg, fun b hb => s3 b ((ho b).2 (Or.inr hb))⟩
theorem Sat.sub {h0 h : H} {A B : List Ent} (s : Sat h0 A h) (p : B.Sublist A) : Sat h0 B h := by
  obtain ⟨s1, O, s2, s3⟩ := s
  have : ∃ O', SatX B h O' ∧ ∀ b, O' b → O b := by
    clear s3
    induction p generalizing O with
    | slnil => exact ⟨O, s2, fun _ x => x⟩
    | cons a _ ih =>
      obtain ⟨f, g, hp, hg, hd, ho⟩ := s2
      obtain ⟨O', h1, h2⟩ := ih g hg
      exact ⟨O', h1, fun b hb => (ho b).2 (Or.inr (h2 b hb))⟩
    | cons_cons a _ ih =>
      obtain ⟨f, g, hp, hg, hd, ho⟩ := s2
      obtain ⟨O', h1, h2⟩ := ih g hg
      exact ⟨fun b => f b ∨ O' b, ⟨f, O', hp, h1, fun b k k' => hd b k (h2 b k'), fun b => Iff.rfl⟩, fun b hb => (ho b).2 (hb.imp id (h2 b))⟩
  obtain ⟨O', h1, h2⟩ := this
  exact ⟨s1, O', h1, fun b hb => s3 b (h2 b hb)⟩
theorem Sat.nil {h0 h : H} {A : List Ent} (s : Sat h0 A h) : Sat h0 [] h := ⟨s.1, fun _ => False, fun _ x => x, fun _ x => x.elim⟩
theorem Sat.perm {h0 h : H} {A B : List Ent} (s : Sat h0 A h) (p : A.Perm B) : Sat h0 B h := by
  obtain ⟨s1, O, s2, s3⟩ := s
  refine ⟨s1, O, ?_, s3⟩
  clear s3
  induction p generalizing O with
  | nil => exact s2
  | cons x _ ih =>
    obtain ⟨f, g, hp, hg, hd, ho⟩ := s2
    exact ⟨f, g, hp, ih g hg, hd, ho⟩
  | swap x y l =>
    obtain ⟨f, g, hp, ⟨f1, g1, hp1, hg1, hd1, ho1⟩, hd, ho⟩ := s2
    refine ⟨f1, fun b => f b ∨ g1 b, hp1, ⟨f, g1, hp, hg1, fun b k k' => hd b k ((ho1 b).2 (Or.inr k')), fun b => Iff.rfl⟩, ?_, ?_⟩
    · rintro b k (k' | k')
      · exact hd b k' ((ho1 b).2 (Or.inl k))
      · exact hd1 b k k'
    · intro b; rw [ho, ho1]; constructor
      · rintro (k | k | k) <;> simp [k]
      · rintro (k | k | k) <;> simp [k]
  | trans _ _ ih1 ih2 => exact ih2 O (ih1 O s2)
theorem Sat.takeK {h0 h : H} {A : List Ent} (s : Sat h0 A h) {i : Nat} {e : Ent} (a : At A i e) : ∃ f : Nat → Prop, e.P h f ∧ (∀ b, f b → h0.size ≤ b) ∧
    ∀ (h' : H) (e' : Ent) (f' : Nat → Prop), e'.P h' f' → (∀ b, f' b → f b ∨ h.size ≤ b) → Ext f h h' → Sat h0 (Vc.put A i e') h' := by
  obtain ⟨s1, O, s2, s3⟩ := s
  obtain ⟨f, g, hp, hd, ho, hk⟩ := s2.take a
  refine ⟨f, hp, fun b hb => s3 b ((ho b).2 (Or.inl hb)), fun h' e' f' hp' hn hx => ?_⟩
  have hg : ∀ b, g b → b < h.size := fun b hb => s2.lt ((ho b).2 (Or.inr hb))
  refine ⟨s1.comp hx (fun b hb hf => ?_), _, hk e' h' f' hp' (fun b hb => hx.eq b (hg b hb) (fun hf => hd b hf hb)) ?_, ?_⟩
  · have := s3 b ((ho b).2 (Or.inl hf)); omega
  · intro b k1 k2
    rcases hn b k1 with k | k
    · exact hd b k k2
    · have := hg b k2; omega
  · rintro b (k1 | k1)
    · rcases hn b k1 with k | k
      · exact s3 b ((ho b).2 (Or.inl k))
      · have := s1.size; omega
    · exact s3 b ((ho b).2 (Or.inr k1))
theorem Sat.take {h0 h : H} {A : List Ent} (s : Sat h0 A h) {i : Nat} {e : Ent} (a : At A i e) : ∃ f, e.P h f ∧ ∀ b, f b → h0.size ≤ b := by
  obtain ⟨f, h1, h2, _⟩ := s.takeK a
  exact ⟨f, h1, h2⟩
/-- One thing becomes another one: only its own blocks, and new ones, change. -/
theorem Sat.upd {h0 h h' : H} {A : List Ent} (s : Sat h0 A h) {i : Nat} {e e' : Ent} (a : At A i e)
    (k : ∀ f, e.P h f → ∃ f', e'.P h' f' ∧ (∀ b, f' b → f b ∨ h.size ≤ b) ∧ Ext f h h') : Sat h0 (Vc.put A i e') h' := by
  obtain ⟨f, hp, _, hk⟩ := s.takeK a
  obtain ⟨f', h1, h2, h3⟩ := k f hp
  exact hk h' e' f' h1 h2 h3
/-- The same heap, read otherwise. -/
theorem Sat.as {h0 h : H} {A : List Ent} (s : Sat h0 A h) {i : Nat} {e e' : Ent} (a : At A i e) (k : ∀ f, e.P h f → e'.P h f) : Sat h0 (Vc.put A i e') h :=
  s.upd a fun f hp => ⟨f, k f hp, fun _ => Or.inl, Ext.refl _ _⟩

/-! ### A block; a slice -/
@[irreducible] def blkP (b : Nat) (vs : List Value) (h : H) (f : Nat → Prop) : Prop := Blk h b vs ∧ ∀ x, f x ↔ x = b
def blk (b : Nat) (vs : List Value) : Ent where
  tag := .blk b vs
  P := blkP b vs
  st := by unfold blkP; rintro h h' f ⟨k, e⟩ hs; exact ⟨k.of_eq (hs b ((e b).2 rfl)), e⟩
  lt := by unfold blkP; rintro h f x ⟨k, e⟩ hx; rw [(e x).1 hx]; exact k.lt
theorem blk_P {b : Nat} {vs : List Value} {h : H} {f : Nat → Prop} : (blk b vs).P h f ↔ Blk h b vs ∧ ∀ x, f x ↔ x = b := by
  show blkP b vs h f ↔ _; unfold blkP; rfl
@[irreducible] def slP (p : Option Addr) (l c sz : Nat) (vs : List Value) (h : H) (f : Nat → Prop) : Prop := ∃ bs, OwnS h p l c sz vs bs ∧ ∀ x, f x ↔ x ∈ bs
def slE (p : Option Addr) (l c sz : Nat) (vs : List Value) : Ent where
  tag := .sl p l c sz vs
  P := slP p l c sz vs
  st := by
    unfold slP; rintro h h' f ⟨bs, ⟨h1, h2, h3, h4⟩, e⟩ hs
    refine ⟨bs, ⟨h1, h2, h3, ?_⟩, e⟩
    rcases h4 with h4 | ⟨b, rest, e1, rfl, k, e2⟩
    · exact Or.inl h4
    · exact Or.inr ⟨b, rest, e1, rfl, k.of_eq (hs b ((e b).2 (by simp))), e2⟩
  lt := by unfold slP; rintro h f x ⟨bs, o, e⟩ hx; exact o.lt x ((e x).1 hx)
theorem slE_P {p : Option Addr} {l c sz : Nat} {vs : List Value} {h : H} {f : Nat → Prop} : (slE p l c sz vs).P h f ↔ ∃ bs, OwnS h p l c sz vs bs ∧ ∀ x, f x ↔ x ∈ bs := by
  show slP p l c sz vs h f ↔ _; unfold slP; rfl
@[irreducible] def exP {α : Type} (φ : α → Prop) (F : α → List Ent) (h : H) (f : Nat → Prop) : Prop := ∃ a, φ a ∧ SatX (F a) h f
/-- Things whose places nobody need know. -/
def exE {α : Type} (n : Nat) (φ : α → Prop) (F : α → List Ent) : Ent where
  tag := .of n
  P := exP φ F
  st := by unfold exP; rintro h h' f ⟨a, ha, s⟩ hs; exact ⟨a, ha, s.st hs⟩
  lt := by unfold exP; rintro h f x ⟨a, ha, s⟩ hx; exact s.lt hx
theorem exE_P {α : Type} {n : Nat} {φ : α → Prop} {F : α → List Ent} {h : H} {f : Nat → Prop} : (exE n φ F).P h f ↔ ∃ a, φ a ∧ SatX (F a) h f := by
  show exP φ F h f ↔ _; unfold exP; rfl
theorem Sat.open_ {h0 h : H} {A : List Ent} {α : Type} {n : Nat} {φ : α → Prop} {F : α → List Ent} (s : Sat h0 (exE n φ F :: A) h) : ∃ a, φ a ∧ Sat h0 (F a ++ A) h := by
  obtain ⟨s1, O, ⟨f, g, hp, hg, hd, ho⟩, s3⟩ := s
  obtain ⟨a, ha, s⟩ := exE_P.1 hp
  exact ⟨a, ha, s1, O, SatX.append.2 ⟨f, g, s, hg, hd, ho⟩, s3⟩
theorem Sat.close {h0 h : H} {A : List Ent} {α : Type} {n : Nat} {φ : α → Prop} {F : α → List Ent} (a : α) (ha : φ a) (s : Sat h0 (F a ++ A) h) : Sat h0 (exE n φ F :: A) h := by
  obtain ⟨s1, O, s2, s3⟩ := s
  obtain ⟨f, g, hf, hg, hd, ho⟩ := SatX.append.1 s2
  exact ⟨s1, O, ⟨f, g, exE_P.2 ⟨a, ha, hf⟩, hg, hd, ho⟩, s3⟩
/-- Moved to the front. -/
def del : List Ent → Nat → List Ent
  | [], _ => []
  | _ :: A, 0 => A
  | x :: A, i + 1 => x :: del A i
theorem At.perm {A : List Ent} {i : Nat} {e : Ent} (a : At A i e) : A.Perm (e :: del A i) := by
  induction a with
  | z => exact .refl _
  | s _ ih => exact (ih.cons _).trans (.swap _ _ _)
theorem At.perm_put {A : List Ent} {i : Nat} {e : Ent} (a : At A i e) (x : Ent) : (x :: del A i).Perm (Vc.put A i x) := by
  induction a with
  | z => exact .refl _
  | s _ ih => exact (List.Perm.swap _ _ _).trans (ih.cons _)
theorem Sat.front {h0 h : H} {A : List Ent} (s : Sat h0 A h) {i : Nat} {e : Ent} (a : At A i e) : Sat h0 (e :: del A i) h := s.perm a.perm
theorem Sat.back {h0 h : H} {A : List Ent} {i : Nat} {e x : Ent} (a : At A i e) (s : Sat h0 (x :: del A i) h) : Sat h0 (Vc.put A i x) h := s.perm (a.perm_put x)

/-! ### Steps -/
theorem Sat.new {h0 h h' : H} {A : List Ent} (s : Sat h0 A h) {b : Nat} {vs : List Value} (n : hnew h b vs h') : Sat h0 (blk b vs :: A) h' :=
  s.add n.ext (blk_P.2 ⟨n.blk, fun _ => Iff.rfl⟩) fun x hx => by rw [hx, n.b]; exact Nat.le_refl _
theorem Sat.blkOf {h0 h : H} {A : List Ent} (s : Sat h0 A h) {i b : Nat} {vs : List Value} (a : At A i (blk b vs)) : Blk h b vs := by
  obtain ⟨f, hp, _⟩ := s.take a
  exact (blk_P.1 hp).1
theorem Sat.old {h0 h : H} {A : List Ent} (s : Sat h0 A h) {i b : Nat} {vs : List Value} (a : At A i (blk b vs)) : h0.size ≤ b := by
  obtain ⟨f, hp, hl⟩ := s.take a
  exact hl b (((blk_P.1 hp).2 b).2 rfl)
theorem Sat.ld {h0 h : H} {A : List Ent} (s : Sat h0 A h) {i b : Nat} {vs : List Value} (a : At A i (blk b vs)) {o : Nat} {v : Value} (e : vs[o]? = some v) : hc h ⟨b, o, none⟩ = some v := by
  rw [(s.blkOf a).hc, e]
theorem Sat.cs1 {h0 h : H} {A : List Ent} (s : Sat h0 A h) {i b : Nat} {vs : List Value} (a : At A i (blk b vs)) {o : Nat} {xs : List Value} (e : ∀ i, i < xs.length → vs[o + i]? = xs[i]?) : hcs h ⟨b, o, none⟩ xs := (s.blkOf a).hcs e
theorem Sat.cs {h0 h : H} {A : List Ent} (s : Sat h0 A h) {i b : Nat} {vs : List Value} (a : At A i (blk b vs)) {o : Nat} {xs : List Value} (e : (vs.drop o).take xs.length = xs) : hcs h ⟨b, o, none⟩ xs := by
  refine s.cs1 a fun i hi => ?_
  have : ((vs.drop o).take xs.length)[i]? = xs[i]? := by rw [e]
  rw [List.getElem?_take_of_lt hi, List.getElem?_drop] at this
  exact this
theorem Sat.row {h0 h : H} {A : List Ent} (s : Sat h0 A h) {i b : Nat} {vs : List Value} (a : At A i (blk b vs)) {o : Nat} {k : IntKind} {ns : List Int} (e : ∀ i, i < ns.length → vs[o + i]? = ns[i]?.map (Value.int k)) : hrow h ⟨b, o, none⟩ k ns := (s.blkOf a).hrow e
theorem Sat.can {h0 h : H} {A : List Ent} (s : Sat h0 A h) {i b : Nat} {vs : List Value} (a : At A i (blk b vs)) {o n : Nat} (e : o + n ≤ vs.length) : hcan h ⟨b, o, none⟩ n := (s.blkOf a).can e
theorem Sat.wr {h0 h h' : H} {A : List Ent} (s : Sat h0 A h) {i b : Nat} {vs : List Value} (a : At A i (blk b vs)) {o : Nat} {xs : List Value} (e : h' = hwr h ⟨b, o, none⟩ xs) : Sat h0 (Vc.put A i (blk b (splice vs o xs))) h' := by
  subst e
  refine s.upd a fun f hp => ?_
  obtain ⟨k, hf⟩ := blk_P.1 hp
  refine ⟨f, blk_P.2 ⟨k.wr o xs, hf⟩, fun _ => Or.inl, (Ext.wr h b o xs).mono fun x _ hx => (hf x).2 hx⟩
theorem Sat.sv {h0 h : H} {A : List Ent} (s : Sat h0 A h) {i : Nat} {p : Option Addr} {l c sz : Nat} {vs : List Value} (a : At A i (slE p l c sz vs)) : hsv h p sz l vs := by
  obtain ⟨f, hp, _⟩ := s.take a
  obtain ⟨bs, o, _⟩ := slE_P.1 hp
  exact o.hsv
theorem Sat.base {h0 h : H} {A : List Ent} (s : Sat h0 A h) {p : Option Addr} {sz l : Nat} {vs : List Value} (e : hsv h0 p sz l vs) : hsv h p sz l vs := hsv_ext s.1 e fun _ _ x => x
theorem Sat.own {h0 h h' : H} {A : List Ent} (s : Sat h0 A h) (x : Ext none_ h h') {p : Option Addr} {l c sz : Nat} {vs : List Value} {bs : List Nat} (o : OwnS h' p l c sz vs bs) (n : newB h bs) : Sat h0 (slE p l c sz vs :: A) h' :=
  s.add x (f := fun x => x ∈ bs) (slE_P.2 ⟨bs, o, fun _ => Iff.rfl⟩) n
/-- Cells are appended to a slice that is owned. -/
theorem Sat.app {h0 h : H} {A : List Ent} (s : Sat h0 A h) {i : Nat} {p : Option Addr} {l c n sz : Nat} {old vs z : List Value} {B : Nat} (a : At A i (slE p l c sz old)) {K : Option Addr → Nat → Nat → H → Prop}
    (hl : vs.length = n * sz) (hz : z.length = sz) (hv : ∀ v, v ∈ vs → v.oneCell' = true) (hb : (l + n) * B ≤ 2 ^ 47)
    (k : ∀ p' c' h', Sat h0 (Vc.put A i (slE p' (l + n) c' sz (old ++ vs))) h' → K p' (l + n) c' h') : pApp h sz z B p l c n vs K := by
  obtain ⟨f, hp, _, hk⟩ := s.takeK a
  obtain ⟨bs, o, hf⟩ := slE_P.1 hp
  refine pApp_own o hl hz hv hb fun p' c' h' bs' hx ho hn => k _ _ _ ?_
  refine hk h' _ (fun x => x ∈ bs') (slE_P.2 ⟨bs', ho, fun _ => Iff.rfl⟩) (fun b hb => ?_) (hx.mono fun x _ hx => (hf x).2 hx)
  rcases hn b hb with h1 | h1
  · exact Or.inl ((hf b).2 h1)
  · exact Or.inr h1
/-- Cells appended to an empty slice without room. -/
theorem Sat.app_new {h0 h : H} {A : List Ent} (s : Sat h0 A h) {p : Option Addr} {n sz : Nat} {vs z : List Value} {B : Nat} {K : Option Addr → Nat → Nat → H → Prop}
    (hl : vs.length = n * sz) (hz : z.length = sz) (hv : ∀ v, v ∈ vs → v.oneCell' = true) (hb : n * B ≤ 2 ^ 47)
    (k : ∀ p' c' h', Sat h0 (slE p' n c' sz vs :: A) h' → K p' n c' h') : pApp h sz z B p 0 0 n vs K :=
  pApp_empty hl hz hv hb fun p' c' h' bs x o nb => k p' c' h' (s.own x o nb)
theorem At.app {A B : List Ent} {i : Nat} {e : Ent} (a : At A i e) : At (A ++ B) i e := by
  induction a with
  | z => exact .z
  | s _ ih => exact .s ih
theorem At.get {A : List Ent} {i : Nat} {e : Ent} (h : A[i]? = some e) : At A i e := by
  induction A generalizing i with
  | nil => simp at h
  | cons x A ih => cases i with
    | zero => simp at h; subst h; exact .z
    | succ i => exact .s (ih (by simpa using h))
theorem At.mem {A : List Ent} {e : Ent} (h : e ∈ A) : ∃ i, At A i e := by
  obtain ⟨i, hi⟩ := List.mem_iff_getElem?.1 h
  exact ⟨i, At.get hi⟩

end Go.Vc
end
