/- The types of the evaluator's tables (written by wip/tools/ytab.py). -/
import Derived.Test.YtkkeimpmafllpaaGreatDoorYT
import Derived.Test.YtkkeimpmafllpaaGreatDoorYE
namespace Go.Proofs.YtkkeimpmafllpaaGreatDoor
open Go.Y
set_option maxRecDepth 100000
theorem tr1 : TyR Tryz.prog tab 1 yt1 := TyR.one (b := 8) rfl (by kernel_rfl) rfl (by decide) rfl rfl rfl Tryz.zeroValue1
theorem tr2 : TyR Tryz.prog tab 2 yt2 := TyR.one (b := 8) rfl (by kernel_rfl) rfl (by decide) rfl rfl rfl Tryz.zeroValue2
theorem tr3 : TyR Tryz.prog tab 3 yt3 := TyR.one (b := 8) rfl (by kernel_rfl) rfl (by decide) rfl rfl rfl Tryz.zeroValue3
theorem tr4 : TyR Tryz.prog tab 4 yt4 := TyR.one (b := 1) rfl (by kernel_rfl) rfl (by decide) rfl rfl rfl Tryz.zeroValue4
theorem tr5 : TyR Tryz.prog tab 5 yt5 := TyR.one (b := 1) rfl (by kernel_rfl) rfl (by decide) rfl rfl rfl Tryz.zeroValue5
theorem tr6 : TyR Tryz.prog tab 6 yt6 := TyR.one (b := 1) rfl (by kernel_rfl) rfl (by decide) rfl rfl rfl Tryz.zeroValue6
theorem tr7 : TyR Tryz.prog tab 7 yt7 := TyR.agg (b := 24) (zero := ty7.zero) (by kernel_rfl) (by kernel_rfl) (by decide) rfl (fun fs h => by cases h; kernel_rfl) (fun n et h => by cases h) (fun h => by cases h) rfl Tryz.zeroValue7
theorem tr8 : TyR Tryz.prog tab 8 yt8 := TyR.agg (b := 24) (zero := ty8.zero) (by kernel_rfl) (by kernel_rfl) (by decide) rfl (fun fs h => by cases h; kernel_rfl) (fun n et h => by cases h) (fun h => by cases h) rfl Tryz.zeroValue8
theorem tr9 : TyR Tryz.prog tab 9 yt9 := TyR.one (b := 16) rfl (by kernel_rfl) rfl (by decide) rfl rfl rfl Tryz.zeroValue9
theorem tr10 : TyR Tryz.prog tab 10 yt10 := TyR.one (b := 16) rfl (by kernel_rfl) rfl (by decide) rfl rfl rfl Tryz.zeroValue10
theorem tr11 : TyR Tryz.prog tab 11 yt11 := TyR.one (b := 16) rfl (by kernel_rfl) rfl (by decide) rfl rfl rfl Tryz.zeroValue11
theorem tr12 : TyR Tryz.prog tab 12 yt12 := TyR.one (b := 8) rfl (by kernel_rfl) rfl (by decide) rfl rfl rfl Tryz.zeroValue12
theorem tr13 : TyR Tryz.prog tab 13 yt13 := TyR.agg (b := 24) (zero := ty13.zero) (by kernel_rfl) (by kernel_rfl) (by decide) rfl (fun fs h => by cases h; kernel_rfl) (fun n et h => by cases h) (fun h => by cases h) rfl Tryz.zeroValue13
theorem tr14 : TyR Tryz.prog tab 14 yt14 := TyR.agg (b := 24) (zero := ty14.zero) (by kernel_rfl) (by kernel_rfl) (by decide) rfl (fun fs h => by cases h; kernel_rfl) (fun n et h => by cases h) (fun h => by cases h) rfl Tryz.zeroValue14
theorem tr15 : TyR Tryz.prog tab 15 yt15 := TyR.one (b := 8) rfl (by kernel_rfl) rfl (by decide) rfl rfl rfl Tryz.zeroValue15
theorem tr16 : TyR Tryz.prog tab 16 yt16 := TyR.one (b := 8) rfl (by kernel_rfl) rfl (by decide) rfl rfl rfl Tryz.zeroValue16
theorem tr17 : TyR Tryz.prog tab 17 yt17 := TyR.one (b := 8) rfl (by kernel_rfl) rfl (by decide) rfl rfl rfl Tryz.zeroValue17
theorem tr18 : TyR Tryz.prog tab 18 yt18 := TyR.agg (b := 8) (zero := ty18.zero) (by kernel_rfl) (by kernel_rfl) (by decide) rfl (fun fs h => by cases h; kernel_rfl) (fun n et h => by cases h) (fun h => by cases h) rfl Tryz.zeroValue18
theorem tr19 : TyR Tryz.prog tab 19 yt19 := TyR.agg (b := 8) (zero := ty19.zero) (by kernel_rfl) (by kernel_rfl) (by decide) rfl (fun fs h => by cases h; kernel_rfl) (fun n et h => by cases h) (fun h => by cases h) rfl Tryz.zeroValue19
theorem tr20 : TyR Tryz.prog tab 20 yt20 := TyR.one (b := 16) rfl (by kernel_rfl) rfl (by decide) rfl rfl rfl Tryz.zeroValue20
theorem tr21 : TyR Tryz.prog tab 21 yt21 := TyR.one (b := 4) rfl (by kernel_rfl) rfl (by decide) rfl rfl rfl Tryz.zeroValue21
theorem tr22 : TyR Tryz.prog tab 22 yt22 := TyR.one (b := 24) rfl (by kernel_rfl) rfl (by decide) rfl rfl rfl Tryz.zeroValue22
theorem tr23 : TyR Tryz.prog tab 23 yt23 := TyR.one (b := 24) rfl (by kernel_rfl) rfl (by decide) rfl rfl rfl Tryz.zeroValue23
theorem tr24 : TyR Tryz.prog tab 24 yt24 := TyR.one (b := 8) rfl (by kernel_rfl) rfl (by decide) rfl rfl rfl Tryz.zeroValue24
theorem tr25 : TyR Tryz.prog tab 25 yt25 := TyR.one (b := 8) rfl (by kernel_rfl) rfl (by decide) rfl rfl rfl Tryz.zeroValue25
theorem tr26 : TyR Tryz.prog tab 26 yt26 := TyR.agg (b := 128) (zero := ty26.zero) (by kernel_rfl) (by kernel_rfl) (by decide) rfl (fun fs h => by cases h) (fun n et h => by cases h; exact ⟨ty3, by kernel_rfl⟩) (fun h => by cases h) rfl Tryz.zeroValue26
theorem tr27 : TyR Tryz.prog tab 27 yt27 := TyR.agg (b := 32) (zero := ty27.zero) (by kernel_rfl) (by kernel_rfl) (by decide) rfl (fun fs h => by cases h) (fun n et h => by cases h; exact ⟨ty3, by kernel_rfl⟩) (fun h => by cases h) rfl Tryz.zeroValue27
theorem tr28 : TyR Tryz.prog tab 28 yt28 := TyR.agg (b := 4) (zero := ty28.zero) (by kernel_rfl) (by kernel_rfl) (by decide) rfl (fun fs h => by cases h) (fun n et h => by cases h; exact ⟨ty4, by kernel_rfl⟩) (fun h => by cases h) rfl Tryz.zeroValue28
theorem tr29 : TyR Tryz.prog tab 29 yt29 := TyR.agg (b := 200) (zero := ty29.zero) (by kernel_rfl) (by kernel_rfl) (by decide) rfl (fun fs h => by cases h; kernel_rfl) (fun n et h => by cases h) (fun h => by cases h) rfl Tryz.zeroValue29
theorem tr30 : TyR Tryz.prog tab 30 yt30 := TyR.agg (b := 200) (zero := ty30.zero) (by kernel_rfl) (by kernel_rfl) (by decide) rfl (fun fs h => by cases h; kernel_rfl) (fun n et h => by cases h) (fun h => by cases h) rfl Tryz.zeroValue30
theorem tr31 : TyR Tryz.prog tab 31 yt31 := TyR.one (b := 24) rfl (by kernel_rfl) rfl (by decide) rfl rfl rfl Tryz.zeroValue31
theorem tr32 : TyR Tryz.prog tab 32 yt32 := TyR.agg (b := 256) (zero := ty32.zero) (by kernel_rfl) (by kernel_rfl) (by decide) rfl (fun fs h => by cases h; kernel_rfl) (fun n et h => by cases h) (fun h => by cases h) rfl Tryz.zeroValue32
theorem tr33 : TyR Tryz.prog tab 33 yt33 := TyR.agg (b := 256) (zero := ty33.zero) (by kernel_rfl) (by kernel_rfl) (by decide) rfl (fun fs h => by cases h; kernel_rfl) (fun n et h => by cases h) (fun h => by cases h) rfl Tryz.zeroValue33
theorem tr34 : TyR Tryz.prog tab 34 yt34 := TyR.one (b := 24) rfl (by kernel_rfl) rfl (by decide) rfl rfl rfl Tryz.zeroValue34
theorem tr35 : TyR Tryz.prog tab 35 yt35 := TyR.agg (b := 40) (zero := ty35.zero) (by kernel_rfl) (by kernel_rfl) (by decide) rfl (fun fs h => by cases h; kernel_rfl) (fun n et h => by cases h) (fun h => by cases h) rfl Tryz.zeroValue35
theorem tr36 : TyR Tryz.prog tab 36 yt36 := TyR.agg (b := 40) (zero := ty36.zero) (by kernel_rfl) (by kernel_rfl) (by decide) rfl (fun fs h => by cases h; kernel_rfl) (fun n et h => by cases h) (fun h => by cases h) rfl Tryz.zeroValue36
theorem tr37 : TyR Tryz.prog tab 37 yt37 := TyR.one (b := 8) rfl (by kernel_rfl) rfl (by decide) rfl rfl rfl Tryz.zeroValue37
theorem tr38 : TyR Tryz.prog tab 38 yt38 := TyR.one (b := 24) rfl (by kernel_rfl) rfl (by decide) rfl rfl rfl Tryz.zeroValue38
theorem tr39 : TyR Tryz.prog tab 39 yt39 := TyR.one (b := 24) rfl (by kernel_rfl) rfl (by decide) rfl rfl rfl Tryz.zeroValue39
theorem tr40 : TyR Tryz.prog tab 40 yt40 := TyR.one (b := 8) rfl (by kernel_rfl) rfl (by decide) rfl rfl rfl Tryz.zeroValue40
theorem tr41 : TyR Tryz.prog tab 41 yt41 := TyR.agg (b := 128) (zero := ty41.zero) (by kernel_rfl) (by kernel_rfl) (by decide) rfl (fun fs h => by cases h; kernel_rfl) (fun n et h => by cases h) (fun h => by cases h) rfl Tryz.zeroValue41
theorem tr42 : TyR Tryz.prog tab 42 yt42 := TyR.agg (b := 128) (zero := ty42.zero) (by kernel_rfl) (by kernel_rfl) (by decide) rfl (fun fs h => by cases h; kernel_rfl) (fun n et h => by cases h) (fun h => by cases h) rfl Tryz.zeroValue42
theorem tr43 : TyR Tryz.prog tab 43 yt43 := TyR.one (b := 8) rfl (by kernel_rfl) rfl (by decide) rfl rfl rfl Tryz.zeroValue43
theorem tr45 : TyR Tryz.prog tab 45 yt45 := TyR.one (b := 8) rfl (by kernel_rfl) rfl (by decide) rfl rfl rfl Tryz.zeroValue45
theorem tr46 : TyR Tryz.prog tab 46 yt46 := TyR.agg (b := 32) (zero := ty46.zero) (by kernel_rfl) (by kernel_rfl) (by decide) rfl (fun fs h => by cases h; kernel_rfl) (fun n et h => by cases h) (fun h => by cases h) rfl Tryz.zeroValue46
theorem cmp47 : CmpOk Tryz.prog 47 yt47.zero := .structB (by kernel_rfl) (by kernel_rfl)
theorem tr47 : TyR Tryz.prog tab 47 yt47 := TyR.agg (b := 32) (zero := ty47.zero) (by kernel_rfl) (by kernel_rfl) (by decide) rfl (fun fs h => by cases h; kernel_rfl) (fun n et h => by cases h) (fun _ => cmp47) rfl Tryz.zeroValue47
theorem tr49 : TyR Tryz.prog tab 49 yt49 := TyR.one (b := 8) rfl (by kernel_rfl) rfl (by decide) rfl rfl rfl Tryz.zeroValue49
theorem tr51 : TyR Tryz.prog tab 51 yt51 := TyR.one (b := 8) rfl (by kernel_rfl) rfl (by decide) rfl rfl rfl Tryz.zeroValue51
theorem tr53 : TyR Tryz.prog tab 53 yt53 := TyR.one (b := 8) rfl (by kernel_rfl) rfl (by decide) rfl rfl rfl Tryz.zeroValue53
theorem tr54 : TyR Tryz.prog tab 54 yt54 := TyR.one (b := 8) rfl (by kernel_rfl) rfl (by decide) rfl rfl rfl Tryz.zeroValue54
theorem tr55 : TyR Tryz.prog tab 55 yt55 := TyR.one (b := 8) rfl (by kernel_rfl) rfl (by decide) rfl rfl rfl Tryz.zeroValue55
theorem tr56 : TyR Tryz.prog tab 56 yt56 := TyR.one (b := 8) rfl (by kernel_rfl) rfl (by decide) rfl rfl rfl Tryz.zeroValue56
theorem tr57 : TyR Tryz.prog tab 57 yt57 := TyR.one (b := 8) rfl (by kernel_rfl) rfl (by decide) rfl rfl rfl Tryz.zeroValue57
theorem tr58 : TyR Tryz.prog tab 58 yt58 := TyR.one (b := 8) rfl (by kernel_rfl) rfl (by decide) rfl rfl rfl Tryz.zeroValue58
theorem tr59 : TyR Tryz.prog tab 59 yt59 := TyR.one (b := 8) rfl (by kernel_rfl) rfl (by decide) rfl rfl rfl Tryz.zeroValue59
theorem tr60 : TyR Tryz.prog tab 60 yt60 := TyR.one (b := 8) rfl (by kernel_rfl) rfl (by decide) rfl rfl rfl Tryz.zeroValue60
theorem tr61 : TyR Tryz.prog tab 61 yt61 := TyR.one (b := 8) rfl (by kernel_rfl) rfl (by decide) rfl rfl rfl Tryz.zeroValue61
theorem tr62 : TyR Tryz.prog tab 62 yt62 := TyR.one (b := 8) rfl (by kernel_rfl) rfl (by decide) rfl rfl rfl Tryz.zeroValue62
theorem tr63 : TyR Tryz.prog tab 63 yt63 := TyR.one (b := 8) rfl (by kernel_rfl) rfl (by decide) rfl rfl rfl Tryz.zeroValue63
theorem tr64 : TyR Tryz.prog tab 64 yt64 := TyR.one (b := 24) rfl (by kernel_rfl) rfl (by decide) rfl rfl rfl Tryz.zeroValue64
theorem tr65 : TyR Tryz.prog tab 65 yt65 := TyR.one (b := 8) rfl (by kernel_rfl) rfl (by decide) rfl rfl rfl Tryz.zeroValue65
theorem tr66 : TyR Tryz.prog tab 66 yt66 := TyR.agg (b := 48) (zero := ty66.zero) (by kernel_rfl) (by kernel_rfl) (by decide) rfl (fun fs h => by cases h; kernel_rfl) (fun n et h => by cases h) (fun h => by cases h) rfl Tryz.zeroValue66
theorem tr67 : TyR Tryz.prog tab 67 yt67 := TyR.agg (b := 48) (zero := ty67.zero) (by kernel_rfl) (by kernel_rfl) (by decide) rfl (fun fs h => by cases h; kernel_rfl) (fun n et h => by cases h) (fun h => by cases h) rfl Tryz.zeroValue67
theorem tr68 : TyR Tryz.prog tab 68 yt68 := TyR.one (b := 8) rfl (by kernel_rfl) rfl (by decide) rfl rfl rfl Tryz.zeroValue68
theorem tr69 : TyR Tryz.prog tab 69 yt69 := TyR.one (b := 8) rfl (by kernel_rfl) rfl (by decide) rfl rfl rfl Tryz.zeroValue69
theorem tr70 : TyR Tryz.prog tab 70 yt70 := TyR.one (b := 8) rfl (by kernel_rfl) rfl (by decide) rfl rfl rfl Tryz.zeroValue70
theorem tr71 : TyR Tryz.prog tab 71 yt71 := TyR.one (b := 8) rfl (by kernel_rfl) rfl (by decide) rfl rfl rfl Tryz.zeroValue71
theorem tr72 : TyR Tryz.prog tab 72 yt72 := TyR.one (b := 8) rfl (by kernel_rfl) rfl (by decide) rfl rfl rfl Tryz.zeroValue72
theorem tr73 : TyR Tryz.prog tab 73 yt73 := TyR.one (b := 8) rfl (by kernel_rfl) rfl (by decide) rfl rfl rfl Tryz.zeroValue73
theorem tr74 : TyR Tryz.prog tab 74 yt74 := TyR.one (b := 8) rfl (by kernel_rfl) rfl (by decide) rfl rfl rfl Tryz.zeroValue74
theorem tr75 : TyR Tryz.prog tab 75 yt75 := TyR.agg (b := 32) (zero := ty75.zero) (by kernel_rfl) (by kernel_rfl) (by decide) rfl (fun fs h => by cases h; kernel_rfl) (fun n et h => by cases h) (fun h => by cases h) rfl Tryz.zeroValue75
theorem tr76 : TyR Tryz.prog tab 76 yt76 := TyR.agg (b := 32) (zero := ty76.zero) (by kernel_rfl) (by kernel_rfl) (by decide) rfl (fun fs h => by cases h; kernel_rfl) (fun n et h => by cases h) (fun h => by cases h) rfl Tryz.zeroValue76
theorem tr77 : TyR Tryz.prog tab 77 yt77 := TyR.agg (b := 16) (zero := ty77.zero) (by kernel_rfl) (by kernel_rfl) (by decide) rfl (fun fs h => by cases h; kernel_rfl) (fun n et h => by cases h) (fun h => by cases h) rfl Tryz.zeroValue77
theorem tr78 : TyR Tryz.prog tab 78 yt78 := TyR.agg (b := 16) (zero := ty78.zero) (by kernel_rfl) (by kernel_rfl) (by decide) rfl (fun fs h => by cases h; kernel_rfl) (fun n et h => by cases h) (fun h => by cases h) rfl Tryz.zeroValue78
theorem tr79 : TyR Tryz.prog tab 79 yt79 := TyR.agg (b := 72) (zero := ty79.zero) (by kernel_rfl) (by kernel_rfl) (by decide) rfl (fun fs h => by cases h; kernel_rfl) (fun n et h => by cases h) (fun h => by cases h) rfl Tryz.zeroValue79
theorem tr80 : TyR Tryz.prog tab 80 yt80 := TyR.agg (b := 72) (zero := ty80.zero) (by kernel_rfl) (by kernel_rfl) (by decide) rfl (fun fs h => by cases h; kernel_rfl) (fun n et h => by cases h) (fun h => by cases h) rfl Tryz.zeroValue80
theorem tr81 : TyR Tryz.prog tab 81 yt81 := TyR.one (b := 8) rfl (by kernel_rfl) rfl (by decide) rfl rfl rfl Tryz.zeroValue81
theorem tr83 : TyR Tryz.prog tab 83 yt83 := TyR.one (b := 8) rfl (by kernel_rfl) rfl (by decide) rfl rfl rfl Tryz.zeroValue83
theorem tr84 : TyR Tryz.prog tab 84 yt84 := TyR.agg (b := 48) (zero := ty84.zero) (by kernel_rfl) (by kernel_rfl) (by decide) rfl (fun fs h => by cases h; kernel_rfl) (fun n et h => by cases h) (fun h => by cases h) rfl Tryz.zeroValue84
theorem tr85 : TyR Tryz.prog tab 85 yt85 := TyR.agg (b := 48) (zero := ty85.zero) (by kernel_rfl) (by kernel_rfl) (by decide) rfl (fun fs h => by cases h; kernel_rfl) (fun n et h => by cases h) (fun h => by cases h) rfl Tryz.zeroValue85
theorem tr86 : TyR Tryz.prog tab 86 yt86 := TyR.one (b := 8) rfl (by kernel_rfl) rfl (by decide) rfl rfl rfl Tryz.zeroValue86
theorem tr87 : TyR Tryz.prog tab 87 yt87 := TyR.one (b := 24) rfl (by kernel_rfl) rfl (by decide) rfl rfl rfl Tryz.zeroValue87
theorem tr88 : TyR Tryz.prog tab 88 yt88 := TyR.one (b := 8) rfl (by kernel_rfl) rfl (by decide) rfl rfl rfl Tryz.zeroValue88
theorem tr89 : TyR Tryz.prog tab 89 yt89 := TyR.one (b := 8) rfl (by kernel_rfl) rfl (by decide) rfl rfl rfl Tryz.zeroValue89
theorem tr90 : TyR Tryz.prog tab 90 yt90 := TyR.one (b := 8) rfl (by kernel_rfl) rfl (by decide) rfl rfl rfl Tryz.zeroValue90
theorem tr91 : TyR Tryz.prog tab 91 yt91 := TyR.one (b := 24) rfl (by kernel_rfl) rfl (by decide) rfl rfl rfl Tryz.zeroValue91
theorem tr92 : TyR Tryz.prog tab 92 yt92 := TyR.one (b := 16) rfl (by kernel_rfl) rfl (by decide) rfl rfl rfl Tryz.zeroValue92
theorem tr93 : TyR Tryz.prog tab 93 yt93 := TyR.one (b := 16) rfl (by kernel_rfl) rfl (by decide) rfl rfl rfl Tryz.zeroValue93
theorem tr94 : TyR Tryz.prog tab 94 yt94 := TyR.agg (b := 48) (zero := ty94.zero) (by kernel_rfl) (by kernel_rfl) (by decide) rfl (fun fs h => by cases h; kernel_rfl) (fun n et h => by cases h) (fun h => by cases h) rfl Tryz.zeroValue94
theorem tr95 : TyR Tryz.prog tab 95 yt95 := TyR.agg (b := 48) (zero := ty95.zero) (by kernel_rfl) (by kernel_rfl) (by decide) rfl (fun fs h => by cases h; kernel_rfl) (fun n et h => by cases h) (fun h => by cases h) rfl Tryz.zeroValue95
theorem tr96 : TyR Tryz.prog tab 96 yt96 := TyR.one (b := 8) rfl (by kernel_rfl) rfl (by decide) rfl rfl rfl Tryz.zeroValue96
theorem tr97 : TyR Tryz.prog tab 97 yt97 := TyR.one (b := 8) rfl (by kernel_rfl) rfl (by decide) rfl rfl rfl Tryz.zeroValue97
theorem tr98 : TyR Tryz.prog tab 98 yt98 := TyR.one (b := 8) rfl (by kernel_rfl) rfl (by decide) rfl rfl rfl Tryz.zeroValue98
theorem tr99 : TyR Tryz.prog tab 99 yt99 := TyR.one (b := 8) rfl (by kernel_rfl) rfl (by decide) rfl rfl rfl Tryz.zeroValue99
theorem tr100 : TyR Tryz.prog tab 100 yt100 := TyR.agg (b := 24) (zero := ty100.zero) (by kernel_rfl) (by kernel_rfl) (by decide) rfl (fun fs h => by cases h; kernel_rfl) (fun n et h => by cases h) (fun h => by cases h) rfl Tryz.zeroValue100
theorem tr101 : TyR Tryz.prog tab 101 yt101 := TyR.agg (b := 24) (zero := ty101.zero) (by kernel_rfl) (by kernel_rfl) (by decide) rfl (fun fs h => by cases h; kernel_rfl) (fun n et h => by cases h) (fun h => by cases h) rfl Tryz.zeroValue101
theorem tr102 : TyR Tryz.prog tab 102 yt102 := TyR.one (b := 8) rfl (by kernel_rfl) rfl (by decide) rfl rfl rfl Tryz.zeroValue102
theorem tr103 : TyR Tryz.prog tab 103 yt103 := TyR.one (b := 8) rfl (by kernel_rfl) rfl (by decide) rfl rfl rfl Tryz.zeroValue103
theorem tr104 : TyR Tryz.prog tab 104 yt104 := TyR.agg (b := 32) (zero := ty104.zero) (by kernel_rfl) (by kernel_rfl) (by decide) rfl (fun fs h => by cases h; kernel_rfl) (fun n et h => by cases h) (fun h => by cases h) rfl Tryz.zeroValue104
theorem tr105 : TyR Tryz.prog tab 105 yt105 := TyR.agg (b := 32) (zero := ty105.zero) (by kernel_rfl) (by kernel_rfl) (by decide) rfl (fun fs h => by cases h; kernel_rfl) (fun n et h => by cases h) (fun h => by cases h) rfl Tryz.zeroValue105
theorem tr106 : TyR Tryz.prog tab 106 yt106 := TyR.one (b := 8) rfl (by kernel_rfl) rfl (by decide) rfl rfl rfl Tryz.zeroValue106
theorem tr107 : TyR Tryz.prog tab 107 yt107 := TyR.one (b := 8) rfl (by kernel_rfl) rfl (by decide) rfl rfl rfl Tryz.zeroValue107
theorem tr108 : TyR Tryz.prog tab 108 yt108 := TyR.one (b := 8) rfl (by kernel_rfl) rfl (by decide) rfl rfl rfl Tryz.zeroValue108
theorem tr109 : TyR Tryz.prog tab 109 yt109 := TyR.agg (b := 32) (zero := ty109.zero) (by kernel_rfl) (by kernel_rfl) (by decide) rfl (fun fs h => by cases h; kernel_rfl) (fun n et h => by cases h) (fun h => by cases h) rfl Tryz.zeroValue109
theorem tr110 : TyR Tryz.prog tab 110 yt110 := TyR.agg (b := 32) (zero := ty110.zero) (by kernel_rfl) (by kernel_rfl) (by decide) rfl (fun fs h => by cases h; kernel_rfl) (fun n et h => by cases h) (fun h => by cases h) rfl Tryz.zeroValue110
theorem tr112 : TyR Tryz.prog tab 112 yt112 := TyR.one (b := 8) rfl (by kernel_rfl) rfl (by decide) rfl rfl rfl Tryz.zeroValue112
theorem tr114 : TyR Tryz.prog tab 114 yt114 := TyR.one (b := 8) rfl (by kernel_rfl) rfl (by decide) rfl rfl rfl Tryz.zeroValue114
theorem tr115 : TyR Tryz.prog tab 115 yt115 := TyR.one (b := 8) rfl (by kernel_rfl) rfl (by decide) rfl rfl rfl Tryz.zeroValue115
theorem tr116 : TyR Tryz.prog tab 116 yt116 := TyR.one (b := 8) rfl (by kernel_rfl) rfl (by decide) rfl rfl rfl Tryz.zeroValue116
theorem tr117 : TyR Tryz.prog tab 117 yt117 := TyR.one (b := 8) rfl (by kernel_rfl) rfl (by decide) rfl rfl rfl Tryz.zeroValue117
theorem tr118 : TyR Tryz.prog tab 118 yt118 := TyR.one (b := 8) rfl (by kernel_rfl) rfl (by decide) rfl rfl rfl Tryz.zeroValue118
theorem tr120 : TyR Tryz.prog tab 120 yt120 := TyR.one (b := 8) rfl (by kernel_rfl) rfl (by decide) rfl rfl rfl Tryz.zeroValue120
theorem tr121 : TyR Tryz.prog tab 121 yt121 := TyR.one (b := 8) rfl (by kernel_rfl) rfl (by decide) rfl rfl rfl Tryz.zeroValue121
theorem tr122 : TyR Tryz.prog tab 122 yt122 := TyR.one (b := 8) rfl (by kernel_rfl) rfl (by decide) rfl rfl rfl Tryz.zeroValue122
theorem tr123 : TyR Tryz.prog tab 123 yt123 := TyR.one (b := 8) rfl (by kernel_rfl) rfl (by decide) rfl rfl rfl Tryz.zeroValue123
theorem tr124 : TyR Tryz.prog tab 124 yt124 := TyR.one (b := 8) rfl (by kernel_rfl) rfl (by decide) rfl rfl rfl Tryz.zeroValue124
theorem tr125 : TyR Tryz.prog tab 125 yt125 := TyR.one (b := 8) rfl (by kernel_rfl) rfl (by decide) rfl rfl rfl Tryz.zeroValue125
theorem tr126 : TyR Tryz.prog tab 126 yt126 := TyR.one (b := 8) rfl (by kernel_rfl) rfl (by decide) rfl rfl rfl Tryz.zeroValue126
theorem tr127 : TyR Tryz.prog tab 127 yt127 := TyR.one (b := 8) rfl (by kernel_rfl) rfl (by decide) rfl rfl rfl Tryz.zeroValue127
theorem tr128 : TyR Tryz.prog tab 128 yt128 := TyR.one (b := 24) rfl (by kernel_rfl) rfl (by decide) rfl rfl rfl Tryz.zeroValue128
theorem tr129 : TyR Tryz.prog tab 129 yt129 := TyR.one (b := 8) rfl (by kernel_rfl) rfl (by decide) rfl rfl rfl Tryz.zeroValue129
theorem tr130 : TyR Tryz.prog tab 130 yt130 := TyR.agg (b := 40) (zero := ty130.zero) (by kernel_rfl) (by kernel_rfl) (by decide) rfl (fun fs h => by cases h; kernel_rfl) (fun n et h => by cases h) (fun h => by cases h) rfl Tryz.zeroValue130
theorem tr131 : TyR Tryz.prog tab 131 yt131 := TyR.agg (b := 40) (zero := ty131.zero) (by kernel_rfl) (by kernel_rfl) (by decide) rfl (fun fs h => by cases h; kernel_rfl) (fun n et h => by cases h) (fun h => by cases h) rfl Tryz.zeroValue131
theorem tr132 : TyR Tryz.prog tab 132 yt132 := TyR.one (b := 8) rfl (by kernel_rfl) rfl (by decide) rfl rfl rfl Tryz.zeroValue132
theorem tr133 : TyR Tryz.prog tab 133 yt133 := TyR.one (b := 8) rfl (by kernel_rfl) rfl (by decide) rfl rfl rfl Tryz.zeroValue133
theorem tr134 : TyR Tryz.prog tab 134 yt134 := TyR.one (b := 8) rfl (by kernel_rfl) rfl (by decide) rfl rfl rfl Tryz.zeroValue134
theorem tr135 : TyR Tryz.prog tab 135 yt135 := TyR.one (b := 8) rfl (by kernel_rfl) rfl (by decide) rfl rfl rfl Tryz.zeroValue135
theorem tr136 : TyR Tryz.prog tab 136 yt136 := TyR.one (b := 8) rfl (by kernel_rfl) rfl (by decide) rfl rfl rfl Tryz.zeroValue136
theorem tr137 : TyR Tryz.prog tab 137 yt137 := TyR.one (b := 24) rfl (by kernel_rfl) rfl (by decide) rfl rfl rfl Tryz.zeroValue137
theorem tr138 : TyR Tryz.prog tab 138 yt138 := TyR.one (b := 24) rfl (by kernel_rfl) rfl (by decide) rfl rfl rfl Tryz.zeroValue138
theorem tr139 : TyR Tryz.prog tab 139 yt139 := TyR.one (b := 8) rfl (by kernel_rfl) rfl (by decide) rfl rfl rfl Tryz.zeroValue139
theorem tr140 : TyR Tryz.prog tab 140 yt140 := TyR.agg (b := 112) (zero := ty140.zero) (by kernel_rfl) (by kernel_rfl) (by decide) rfl (fun fs h => by cases h; kernel_rfl) (fun n et h => by cases h) (fun h => by cases h) rfl Tryz.zeroValue140
theorem tr141 : TyR Tryz.prog tab 141 yt141 := TyR.agg (b := 112) (zero := ty141.zero) (by kernel_rfl) (by kernel_rfl) (by decide) rfl (fun fs h => by cases h; kernel_rfl) (fun n et h => by cases h) (fun h => by cases h) rfl Tryz.zeroValue141
theorem tr142 : TyR Tryz.prog tab 142 yt142 := TyR.one (b := 8) rfl (by kernel_rfl) rfl (by decide) rfl rfl rfl Tryz.zeroValue142
theorem tr143 : TyR Tryz.prog tab 143 yt143 := TyR.one (b := 8) rfl (by kernel_rfl) rfl (by decide) rfl rfl rfl Tryz.zeroValue143
theorem tr144 : TyR Tryz.prog tab 144 yt144 := TyR.one (b := 8) rfl (by kernel_rfl) rfl (by decide) rfl rfl rfl Tryz.zeroValue144
theorem tr145 : TyR Tryz.prog tab 145 yt145 := TyR.one (b := 8) rfl (by kernel_rfl) rfl (by decide) rfl rfl rfl Tryz.zeroValue145
theorem tr146 : TyR Tryz.prog tab 146 yt146 := TyR.one (b := 8) rfl (by kernel_rfl) rfl (by decide) rfl rfl rfl Tryz.zeroValue146
theorem tr147 : TyR Tryz.prog tab 147 yt147 := TyR.one (b := 8) rfl (by kernel_rfl) rfl (by decide) rfl rfl rfl Tryz.zeroValue147
theorem tr148 : TyR Tryz.prog tab 148 yt148 := TyR.one (b := 8) rfl (by kernel_rfl) rfl (by decide) rfl rfl rfl Tryz.zeroValue148
theorem tr149 : TyR Tryz.prog tab 149 yt149 := TyR.one (b := 8) rfl (by kernel_rfl) rfl (by decide) rfl rfl rfl Tryz.zeroValue149
theorem tr150 : TyR Tryz.prog tab 150 yt150 := TyR.agg (b := 40) (zero := ty150.zero) (by kernel_rfl) (by kernel_rfl) (by decide) rfl (fun fs h => by cases h; kernel_rfl) (fun n et h => by cases h) (fun h => by cases h) rfl Tryz.zeroValue150
theorem tr151 : TyR Tryz.prog tab 151 yt151 := TyR.agg (b := 40) (zero := ty151.zero) (by kernel_rfl) (by kernel_rfl) (by decide) rfl (fun fs h => by cases h; kernel_rfl) (fun n et h => by cases h) (fun h => by cases h) rfl Tryz.zeroValue151
theorem tr152 : TyR Tryz.prog tab 152 yt152 := TyR.one (b := 8) rfl (by kernel_rfl) rfl (by decide) rfl rfl rfl Tryz.zeroValue152
theorem tr153 : TyR Tryz.prog tab 153 yt153 := TyR.agg (b := 40) (zero := ty153.zero) (by kernel_rfl) (by kernel_rfl) (by decide) rfl (fun fs h => by cases h; kernel_rfl) (fun n et h => by cases h) (fun h => by cases h) rfl Tryz.zeroValue153
theorem tr154 : TyR Tryz.prog tab 154 yt154 := TyR.agg (b := 40) (zero := ty154.zero) (by kernel_rfl) (by kernel_rfl) (by decide) rfl (fun fs h => by cases h; kernel_rfl) (fun n et h => by cases h) (fun h => by cases h) rfl Tryz.zeroValue154
theorem tr155 : TyR Tryz.prog tab 155 yt155 := TyR.one (b := 8) rfl (by kernel_rfl) rfl (by decide) rfl rfl rfl Tryz.zeroValue155
theorem tr156 : TyR Tryz.prog tab 156 yt156 := TyR.one (b := 8) rfl (by kernel_rfl) rfl (by decide) rfl rfl rfl Tryz.zeroValue156
theorem tr157 : TyR Tryz.prog tab 157 yt157 := TyR.one (b := 8) rfl (by kernel_rfl) rfl (by decide) rfl rfl rfl Tryz.zeroValue157
theorem tr158 : TyR Tryz.prog tab 158 yt158 := TyR.one (b := 8) rfl (by kernel_rfl) rfl (by decide) rfl rfl rfl Tryz.zeroValue158
theorem tr159 : TyR Tryz.prog tab 159 yt159 := TyR.one (b := 8) rfl (by kernel_rfl) rfl (by decide) rfl rfl rfl Tryz.zeroValue159
theorem tr161 : TyR Tryz.prog tab 161 yt161 := TyR.one (b := 8) rfl (by kernel_rfl) rfl (by decide) rfl rfl rfl Tryz.zeroValue161
theorem tr163 : TyR Tryz.prog tab 163 yt163 := TyR.one (b := 8) rfl (by kernel_rfl) rfl (by decide) rfl rfl rfl Tryz.zeroValue163
theorem tr165 : TyR Tryz.prog tab 165 yt165 := TyR.one (b := 8) rfl (by kernel_rfl) rfl (by decide) rfl rfl rfl Tryz.zeroValue165
theorem tr166 : TyR Tryz.prog tab 166 yt166 := TyR.one (b := 8) rfl (by kernel_rfl) rfl (by decide) rfl rfl rfl Tryz.zeroValue166
theorem tr168 : TyR Tryz.prog tab 168 yt168 := TyR.one (b := 8) rfl (by kernel_rfl) rfl (by decide) rfl rfl rfl Tryz.zeroValue168
theorem tr169 : TyR Tryz.prog tab 169 yt169 := TyR.one (b := 8) rfl (by kernel_rfl) rfl (by decide) rfl rfl rfl Tryz.zeroValue169
theorem tr170 : TyR Tryz.prog tab 170 yt170 := TyR.one (b := 8) rfl (by kernel_rfl) rfl (by decide) rfl rfl rfl Tryz.zeroValue170
theorem tr171 : TyR Tryz.prog tab 171 yt171 := TyR.one (b := 8) rfl (by kernel_rfl) rfl (by decide) rfl rfl rfl Tryz.zeroValue171
theorem tr172 : TyR Tryz.prog tab 172 yt172 := TyR.one (b := 8) rfl (by kernel_rfl) rfl (by decide) rfl rfl rfl Tryz.zeroValue172
theorem tr173 : TyR Tryz.prog tab 173 yt173 := TyR.one (b := 24) rfl (by kernel_rfl) rfl (by decide) rfl rfl rfl Tryz.zeroValue173
theorem tr174 : TyR Tryz.prog tab 174 yt174 := TyR.agg (b := 32) (zero := ty174.zero) (by kernel_rfl) (by kernel_rfl) (by decide) rfl (fun fs h => by cases h; kernel_rfl) (fun n et h => by cases h) (fun h => by cases h) rfl Tryz.zeroValue174
theorem tr175 : TyR Tryz.prog tab 175 yt175 := TyR.agg (b := 32) (zero := ty175.zero) (by kernel_rfl) (by kernel_rfl) (by decide) rfl (fun fs h => by cases h; kernel_rfl) (fun n et h => by cases h) (fun h => by cases h) rfl Tryz.zeroValue175
theorem tr176 : TyR Tryz.prog tab 176 yt176 := TyR.one (b := 8) rfl (by kernel_rfl) rfl (by decide) rfl rfl rfl Tryz.zeroValue176
theorem tr177 : TyR Tryz.prog tab 177 yt177 := TyR.one (b := 8) rfl (by kernel_rfl) rfl (by decide) rfl rfl rfl Tryz.zeroValue177
theorem tr178 : TyR Tryz.prog tab 178 yt178 := TyR.agg (b := 24) (zero := ty178.zero) (by kernel_rfl) (by kernel_rfl) (by decide) rfl (fun fs h => by cases h; kernel_rfl) (fun n et h => by cases h) (fun h => by cases h) rfl Tryz.zeroValue178
theorem tr179 : TyR Tryz.prog tab 179 yt179 := TyR.agg (b := 24) (zero := ty179.zero) (by kernel_rfl) (by kernel_rfl) (by decide) rfl (fun fs h => by cases h; kernel_rfl) (fun n et h => by cases h) (fun h => by cases h) rfl Tryz.zeroValue179
theorem tr180 : TyR Tryz.prog tab 180 yt180 := TyR.one (b := 24) rfl (by kernel_rfl) rfl (by decide) rfl rfl rfl Tryz.zeroValue180
theorem tr181 : TyR Tryz.prog tab 181 yt181 := TyR.one (b := 8) rfl (by kernel_rfl) rfl (by decide) rfl rfl rfl Tryz.zeroValue181
theorem tr182 : TyR Tryz.prog tab 182 yt182 := TyR.agg (b := 24) (zero := ty182.zero) (by kernel_rfl) (by kernel_rfl) (by decide) rfl (fun fs h => by cases h; kernel_rfl) (fun n et h => by cases h) (fun h => by cases h) rfl Tryz.zeroValue182
theorem tr183 : TyR Tryz.prog tab 183 yt183 := TyR.agg (b := 24) (zero := ty183.zero) (by kernel_rfl) (by kernel_rfl) (by decide) rfl (fun fs h => by cases h; kernel_rfl) (fun n et h => by cases h) (fun h => by cases h) rfl Tryz.zeroValue183
theorem tr184 : TyR Tryz.prog tab 184 yt184 := TyR.one (b := 8) rfl (by kernel_rfl) rfl (by decide) rfl rfl rfl Tryz.zeroValue184
theorem tr185 : TyR Tryz.prog tab 185 yt185 := TyR.one (b := 24) rfl (by kernel_rfl) rfl (by decide) rfl rfl rfl Tryz.zeroValue185
theorem tr186 : TyR Tryz.prog tab 186 yt186 := TyR.agg (b := 48) (zero := ty186.zero) (by kernel_rfl) (by kernel_rfl) (by decide) rfl (fun fs h => by cases h; kernel_rfl) (fun n et h => by cases h) (fun h => by cases h) rfl Tryz.zeroValue186
theorem tr187 : TyR Tryz.prog tab 187 yt187 := TyR.agg (b := 48) (zero := ty187.zero) (by kernel_rfl) (by kernel_rfl) (by decide) rfl (fun fs h => by cases h; kernel_rfl) (fun n et h => by cases h) (fun h => by cases h) rfl Tryz.zeroValue187
theorem tr188 : TyR Tryz.prog tab 188 yt188 := TyR.agg (b := 16) (zero := ty188.zero) (by kernel_rfl) (by kernel_rfl) (by decide) rfl (fun fs h => by cases h; kernel_rfl) (fun n et h => by cases h) (fun h => by cases h) rfl Tryz.zeroValue188
theorem tr189 : TyR Tryz.prog tab 189 yt189 := TyR.agg (b := 16) (zero := ty189.zero) (by kernel_rfl) (by kernel_rfl) (by decide) rfl (fun fs h => by cases h; kernel_rfl) (fun n et h => by cases h) (fun h => by cases h) rfl Tryz.zeroValue189
theorem tr190 : TyR Tryz.prog tab 190 yt190 := TyR.one (b := 8) rfl (by kernel_rfl) rfl (by decide) rfl rfl rfl Tryz.zeroValue190
theorem tr191 : TyR Tryz.prog tab 191 yt191 := TyR.agg (b := 24) (zero := ty191.zero) (by kernel_rfl) (by kernel_rfl) (by decide) rfl (fun fs h => by cases h; kernel_rfl) (fun n et h => by cases h) (fun h => by cases h) rfl Tryz.zeroValue191
theorem tr192 : TyR Tryz.prog tab 192 yt192 := TyR.agg (b := 24) (zero := ty192.zero) (by kernel_rfl) (by kernel_rfl) (by decide) rfl (fun fs h => by cases h; kernel_rfl) (fun n et h => by cases h) (fun h => by cases h) rfl Tryz.zeroValue192
theorem tr193 : TyR Tryz.prog tab 193 yt193 := TyR.one (b := 8) rfl (by kernel_rfl) rfl (by decide) rfl rfl rfl Tryz.zeroValue193
theorem tr194 : TyR Tryz.prog tab 194 yt194 := TyR.one (b := 24) rfl (by kernel_rfl) rfl (by decide) rfl rfl rfl Tryz.zeroValue194
theorem tr195 : TyR Tryz.prog tab 195 yt195 := TyR.agg (b := 48) (zero := ty195.zero) (by kernel_rfl) (by kernel_rfl) (by decide) rfl (fun fs h => by cases h; kernel_rfl) (fun n et h => by cases h) (fun h => by cases h) rfl Tryz.zeroValue195
theorem tr196 : TyR Tryz.prog tab 196 yt196 := TyR.agg (b := 48) (zero := ty196.zero) (by kernel_rfl) (by kernel_rfl) (by decide) rfl (fun fs h => by cases h; kernel_rfl) (fun n et h => by cases h) (fun h => by cases h) rfl Tryz.zeroValue196
theorem tr197 : TyR Tryz.prog tab 197 yt197 := TyR.one (b := 8) rfl (by kernel_rfl) rfl (by decide) rfl rfl rfl Tryz.zeroValue197
theorem tr199 : TyR Tryz.prog tab 199 yt199 := TyR.one (b := 8) rfl (by kernel_rfl) rfl (by decide) rfl rfl rfl Tryz.zeroValue199
theorem tr201 : TyR Tryz.prog tab 201 yt201 := TyR.one (b := 8) rfl (by kernel_rfl) rfl (by decide) rfl rfl rfl Tryz.zeroValue201
theorem tr203 : TyR Tryz.prog tab 203 yt203 := TyR.one (b := 8) rfl (by kernel_rfl) rfl (by decide) rfl rfl rfl Tryz.zeroValue203
theorem tr205 : TyR Tryz.prog tab 205 yt205 := TyR.one (b := 8) rfl (by kernel_rfl) rfl (by decide) rfl rfl rfl Tryz.zeroValue205
theorem tr206 : TyR Tryz.prog tab 206 yt206 := TyR.one (b := 8) rfl (by kernel_rfl) rfl (by decide) rfl rfl rfl Tryz.zeroValue206
theorem tr207 : TyR Tryz.prog tab 207 yt207 := TyR.one (b := 8) rfl (by kernel_rfl) rfl (by decide) rfl rfl rfl Tryz.zeroValue207
theorem tr208 : TyR Tryz.prog tab 208 yt208 := TyR.one (b := 8) rfl (by kernel_rfl) rfl (by decide) rfl rfl rfl Tryz.zeroValue208
theorem tr209 : TyR Tryz.prog tab 209 yt209 := TyR.one (b := 8) rfl (by kernel_rfl) rfl (by decide) rfl rfl rfl Tryz.zeroValue209
theorem tr210 : TyR Tryz.prog tab 210 yt210 := TyR.one (b := 8) rfl (by kernel_rfl) rfl (by decide) rfl rfl rfl Tryz.zeroValue210
theorem tr211 : TyR Tryz.prog tab 211 yt211 := TyR.one (b := 8) rfl (by kernel_rfl) rfl (by decide) rfl rfl rfl Tryz.zeroValue211
theorem tr212 : TyR Tryz.prog tab 212 yt212 := TyR.agg (b := 8) (zero := ty212.zero) (by kernel_rfl) (by kernel_rfl) (by decide) rfl (fun fs h => by cases h; kernel_rfl) (fun n et h => by cases h) (fun h => by cases h) rfl Tryz.zeroValue212
theorem tr213 : TyR Tryz.prog tab 213 yt213 := TyR.agg (b := 8) (zero := ty213.zero) (by kernel_rfl) (by kernel_rfl) (by decide) rfl (fun fs h => by cases h; kernel_rfl) (fun n et h => by cases h) (fun h => by cases h) rfl Tryz.zeroValue213
theorem tr214 : TyR Tryz.prog tab 214 yt214 := TyR.one (b := 8) rfl (by kernel_rfl) rfl (by decide) rfl rfl rfl Tryz.zeroValue214
theorem tr215 : TyR Tryz.prog tab 215 yt215 := TyR.agg (b := 16) (zero := ty215.zero) (by kernel_rfl) (by kernel_rfl) (by decide) rfl (fun fs h => by cases h; kernel_rfl) (fun n et h => by cases h) (fun h => by cases h) rfl Tryz.zeroValue215
theorem tr216 : TyR Tryz.prog tab 216 yt216 := TyR.agg (b := 16) (zero := ty216.zero) (by kernel_rfl) (by kernel_rfl) (by decide) rfl (fun fs h => by cases h; kernel_rfl) (fun n et h => by cases h) (fun h => by cases h) rfl Tryz.zeroValue216
theorem tr218 : TyR Tryz.prog tab 218 yt218 := TyR.one (b := 8) rfl (by kernel_rfl) rfl (by decide) rfl rfl rfl Tryz.zeroValue218
theorem tr219 : TyR Tryz.prog tab 219 yt219 := TyR.one (b := 8) rfl (by kernel_rfl) rfl (by decide) rfl rfl rfl Tryz.zeroValue219
theorem tr220 : TyR Tryz.prog tab 220 yt220 := TyR.agg (b := 0) (zero := ty220.zero) (by kernel_rfl) (by kernel_rfl) (by decide) rfl (fun fs h => by cases h; kernel_rfl) (fun n et h => by cases h) (fun h => by cases h) rfl Tryz.zeroValue220
theorem tr221 : TyR Tryz.prog tab 221 yt221 := TyR.agg (b := 0) (zero := ty221.zero) (by kernel_rfl) (by kernel_rfl) (by decide) rfl (fun fs h => by cases h; kernel_rfl) (fun n et h => by cases h) (fun h => by cases h) rfl Tryz.zeroValue221
theorem tr222 : TyR Tryz.prog tab 222 yt222 := TyR.agg (b := 16) (zero := ty222.zero) (by kernel_rfl) (by kernel_rfl) (by decide) rfl (fun fs h => by cases h; kernel_rfl) (fun n et h => by cases h) (fun h => by cases h) rfl Tryz.zeroValue222
theorem tr223 : TyR Tryz.prog tab 223 yt223 := TyR.one (b := 8) rfl (by kernel_rfl) rfl (by decide) rfl rfl rfl Tryz.zeroValue223
theorem tr224 : TyR Tryz.prog tab 224 yt224 := TyR.agg (b := 16) (zero := ty224.zero) (by kernel_rfl) (by kernel_rfl) (by decide) rfl (fun fs h => by cases h; kernel_rfl) (fun n et h => by cases h) (fun h => by cases h) rfl Tryz.zeroValue224
theorem tr225 : TyR Tryz.prog tab 225 yt225 := TyR.one (b := 8) rfl (by kernel_rfl) rfl (by decide) rfl rfl rfl Tryz.zeroValue225
theorem tr226 : TyR Tryz.prog tab 226 yt226 := TyR.one (b := 8) rfl (by kernel_rfl) rfl (by decide) rfl rfl rfl Tryz.zeroValue226
theorem tr227 : TyR Tryz.prog tab 227 yt227 := TyR.agg (b := 8) (zero := ty227.zero) (by kernel_rfl) (by kernel_rfl) (by decide) rfl (fun fs h => by cases h; kernel_rfl) (fun n et h => by cases h) (fun h => by cases h) rfl Tryz.zeroValue227
theorem tr228 : TyR Tryz.prog tab 228 yt228 := TyR.agg (b := 8) (zero := ty228.zero) (by kernel_rfl) (by kernel_rfl) (by decide) rfl (fun fs h => by cases h; kernel_rfl) (fun n et h => by cases h) (fun h => by cases h) rfl Tryz.zeroValue228
theorem tr229 : TyR Tryz.prog tab 229 yt229 := TyR.one (b := 8) rfl (by kernel_rfl) rfl (by decide) rfl rfl rfl Tryz.zeroValue229
theorem tr230 : TyR Tryz.prog tab 230 yt230 := TyR.agg (b := 8) (zero := ty230.zero) (by kernel_rfl) (by kernel_rfl) (by decide) rfl (fun fs h => by cases h; kernel_rfl) (fun n et h => by cases h) (fun h => by cases h) rfl Tryz.zeroValue230
theorem tr231 : TyR Tryz.prog tab 231 yt231 := TyR.agg (b := 8) (zero := ty231.zero) (by kernel_rfl) (by kernel_rfl) (by decide) rfl (fun fs h => by cases h; kernel_rfl) (fun n et h => by cases h) (fun h => by cases h) rfl Tryz.zeroValue231
theorem tr232 : TyR Tryz.prog tab 232 yt232 := TyR.one (b := 8) rfl (by kernel_rfl) rfl (by decide) rfl rfl rfl Tryz.zeroValue232
theorem tr233 : TyR Tryz.prog tab 233 yt233 := TyR.agg (b := 16) (zero := ty233.zero) (by kernel_rfl) (by kernel_rfl) (by decide) rfl (fun fs h => by cases h; kernel_rfl) (fun n et h => by cases h) (fun h => by cases h) rfl Tryz.zeroValue233
theorem tr234 : TyR Tryz.prog tab 234 yt234 := TyR.agg (b := 16) (zero := ty234.zero) (by kernel_rfl) (by kernel_rfl) (by decide) rfl (fun fs h => by cases h; kernel_rfl) (fun n et h => by cases h) (fun h => by cases h) rfl Tryz.zeroValue234
theorem tr235 : TyR Tryz.prog tab 235 yt235 := TyR.one (b := 8) rfl (by kernel_rfl) rfl (by decide) rfl rfl rfl Tryz.zeroValue235
theorem tr236 : TyR Tryz.prog tab 236 yt236 := TyR.one (b := 8) rfl (by kernel_rfl) rfl (by decide) rfl rfl rfl Tryz.zeroValue236
theorem tr237 : TyR Tryz.prog tab 237 yt237 := TyR.agg (b := 0) (zero := ty237.zero) (by kernel_rfl) (by kernel_rfl) (by decide) rfl (fun fs h => by cases h; kernel_rfl) (fun n et h => by cases h) (fun h => by cases h) rfl Tryz.zeroValue237
theorem tr238 : TyR Tryz.prog tab 238 yt238 := TyR.one (b := 8) rfl (by kernel_rfl) rfl (by decide) rfl rfl rfl Tryz.zeroValue238
theorem tr239 : TyR Tryz.prog tab 239 yt239 := TyR.one (b := 8) rfl (by kernel_rfl) rfl (by decide) rfl rfl rfl Tryz.zeroValue239
theorem tr240 : TyR Tryz.prog tab 240 yt240 := TyR.agg (b := 16) (zero := ty240.zero) (by kernel_rfl) (by kernel_rfl) (by decide) rfl (fun fs h => by cases h; kernel_rfl) (fun n et h => by cases h) (fun h => by cases h) rfl Tryz.zeroValue240
theorem tr241 : TyR Tryz.prog tab 241 yt241 := TyR.agg (b := 16) (zero := ty241.zero) (by kernel_rfl) (by kernel_rfl) (by decide) rfl (fun fs h => by cases h; kernel_rfl) (fun n et h => by cases h) (fun h => by cases h) rfl Tryz.zeroValue241
theorem tr242 : TyR Tryz.prog tab 242 yt242 := TyR.agg (b := 0) (zero := ty242.zero) (by kernel_rfl) (by kernel_rfl) (by decide) rfl (fun fs h => by cases h; kernel_rfl) (fun n et h => by cases h) (fun h => by cases h) rfl Tryz.zeroValue242
theorem tr243 : TyR Tryz.prog tab 243 yt243 := TyR.one (b := 8) rfl (by kernel_rfl) rfl (by decide) rfl rfl rfl Tryz.zeroValue243
theorem tr245 : TyR Tryz.prog tab 245 yt245 := TyR.one (b := 8) rfl (by kernel_rfl) rfl (by decide) rfl rfl rfl Tryz.zeroValue245
theorem tr246 : TyR Tryz.prog tab 246 yt246 := TyR.agg (b := 128) (zero := ty246.zero) (by kernel_rfl) (by kernel_rfl) (by decide) rfl (fun fs h => by cases h) (fun n et h => by cases h; exact ⟨ty245, by kernel_rfl⟩) (fun h => by cases h) rfl Tryz.zeroValue246
theorem tr247 : TyR Tryz.prog tab 247 yt247 := TyR.agg (b := 136) (zero := ty247.zero) (by kernel_rfl) (by kernel_rfl) (by decide) rfl (fun fs h => by cases h; kernel_rfl) (fun n et h => by cases h) (fun h => by cases h) rfl Tryz.zeroValue247
theorem tr248 : TyR Tryz.prog tab 248 yt248 := TyR.agg (b := 136) (zero := ty248.zero) (by kernel_rfl) (by kernel_rfl) (by decide) rfl (fun fs h => by cases h; kernel_rfl) (fun n et h => by cases h) (fun h => by cases h) rfl Tryz.zeroValue248
theorem tr249 : TyR Tryz.prog tab 249 yt249 := TyR.one (b := 8) rfl (by kernel_rfl) rfl (by decide) rfl rfl rfl Tryz.zeroValue249
theorem tr250 : TyR Tryz.prog tab 250 yt250 := TyR.agg (b := 64) (zero := ty250.zero) (by kernel_rfl) (by kernel_rfl) (by decide) rfl (fun fs h => by cases h; kernel_rfl) (fun n et h => by cases h) (fun h => by cases h) rfl Tryz.zeroValue250
theorem tr251 : TyR Tryz.prog tab 251 yt251 := TyR.agg (b := 64) (zero := ty251.zero) (by kernel_rfl) (by kernel_rfl) (by decide) rfl (fun fs h => by cases h; kernel_rfl) (fun n et h => by cases h) (fun h => by cases h) rfl Tryz.zeroValue251
theorem tr252 : TyR Tryz.prog tab 252 yt252 := TyR.one (b := 8) rfl (by kernel_rfl) rfl (by decide) rfl rfl rfl Tryz.zeroValue252
theorem tr253 : TyR Tryz.prog tab 253 yt253 := TyR.one (b := 8) rfl (by kernel_rfl) rfl (by decide) rfl rfl rfl Tryz.zeroValue253
theorem tr254 : TyR Tryz.prog tab 254 yt254 := TyR.one (b := 8) rfl (by kernel_rfl) rfl (by decide) rfl rfl rfl Tryz.zeroValue254
theorem tr256 : TyR Tryz.prog tab 256 yt256 := TyR.one (b := 8) rfl (by kernel_rfl) rfl (by decide) rfl rfl rfl Tryz.zeroValue256
theorem tr257 : TyR Tryz.prog tab 257 yt257 := TyR.one (b := 8) rfl (by kernel_rfl) rfl (by decide) rfl rfl rfl Tryz.zeroValue257
theorem tr258 : TyR Tryz.prog tab 258 yt258 := TyR.one (b := 8) rfl (by kernel_rfl) rfl (by decide) rfl rfl rfl Tryz.zeroValue258
theorem tr259 : TyR Tryz.prog tab 259 yt259 := TyR.one (b := 8) rfl (by kernel_rfl) rfl (by decide) rfl rfl rfl Tryz.zeroValue259
theorem tr261 : TyR Tryz.prog tab 261 yt261 := TyR.one (b := 8) rfl (by kernel_rfl) rfl (by decide) rfl rfl rfl Tryz.zeroValue261
theorem tr262 : TyR Tryz.prog tab 262 yt262 := TyR.one (b := 8) rfl (by kernel_rfl) rfl (by decide) rfl rfl rfl Tryz.zeroValue262
theorem tr263 : TyR Tryz.prog tab 263 yt263 := TyR.one (b := 4) rfl (by kernel_rfl) rfl (by decide) rfl rfl rfl Tryz.zeroValue263
theorem tr264 : TyR Tryz.prog tab 264 yt264 := TyR.one (b := 8) rfl (by kernel_rfl) rfl (by decide) rfl rfl rfl Tryz.zeroValue264
theorem tr265 : TyR Tryz.prog tab 265 yt265 := TyR.one (b := 8) rfl (by kernel_rfl) rfl (by decide) rfl rfl rfl Tryz.zeroValue265
theorem tr267 : TyR Tryz.prog tab 267 yt267 := TyR.one (b := 8) rfl (by kernel_rfl) rfl (by decide) rfl rfl rfl Tryz.zeroValue267
theorem tr268 : TyR Tryz.prog tab 268 yt268 := TyR.one (b := 8) rfl (by kernel_rfl) rfl (by decide) rfl rfl rfl Tryz.zeroValue268
theorem tr269 : TyR Tryz.prog tab 269 yt269 := TyR.one (b := 8) rfl (by kernel_rfl) rfl (by decide) rfl rfl rfl Tryz.zeroValue269
theorem tr270 : TyR Tryz.prog tab 270 yt270 := TyR.one (b := 8) rfl (by kernel_rfl) rfl (by decide) rfl rfl rfl Tryz.zeroValue270
theorem tr272 : TyR Tryz.prog tab 272 yt272 := TyR.one (b := 8) rfl (by kernel_rfl) rfl (by decide) rfl rfl rfl Tryz.zeroValue272
theorem tr273 : TyR Tryz.prog tab 273 yt273 := TyR.one (b := 8) rfl (by kernel_rfl) rfl (by decide) rfl rfl rfl Tryz.zeroValue273
theorem tr274 : TyR Tryz.prog tab 274 yt274 := TyR.one (b := 8) rfl (by kernel_rfl) rfl (by decide) rfl rfl rfl Tryz.zeroValue274
theorem tr275 : TyR Tryz.prog tab 275 yt275 := TyR.one (b := 8) rfl (by kernel_rfl) rfl (by decide) rfl rfl rfl Tryz.zeroValue275
theorem tr276 : TyR Tryz.prog tab 276 yt276 := TyR.one (b := 8) rfl (by kernel_rfl) rfl (by decide) rfl rfl rfl Tryz.zeroValue276
theorem tr277 : TyR Tryz.prog tab 277 yt277 := TyR.one (b := 8) rfl (by kernel_rfl) rfl (by decide) rfl rfl rfl Tryz.zeroValue277
theorem tr278 : TyR Tryz.prog tab 278 yt278 := TyR.agg (b := 16) (zero := ty278.zero) (by kernel_rfl) (by kernel_rfl) (by decide) rfl (fun fs h => by cases h; kernel_rfl) (fun n et h => by cases h) (fun h => by cases h) rfl Tryz.zeroValue278
theorem tr279 : TyR Tryz.prog tab 279 yt279 := TyR.agg (b := 16) (zero := ty279.zero) (by kernel_rfl) (by kernel_rfl) (by decide) rfl (fun fs h => by cases h; kernel_rfl) (fun n et h => by cases h) (fun h => by cases h) rfl Tryz.zeroValue279
theorem tr280 : TyR Tryz.prog tab 280 yt280 := TyR.one (b := 8) rfl (by kernel_rfl) rfl (by decide) rfl rfl rfl Tryz.zeroValue280
theorem tr281 : TyR Tryz.prog tab 281 yt281 := TyR.one (b := 8) rfl (by kernel_rfl) rfl (by decide) rfl rfl rfl Tryz.zeroValue281
theorem tr282 : TyR Tryz.prog tab 282 yt282 := TyR.one (b := 8) rfl (by kernel_rfl) rfl (by decide) rfl rfl rfl Tryz.zeroValue282
theorem tr283 : TyR Tryz.prog tab 283 yt283 := TyR.agg (b := 64) (zero := ty283.zero) (by kernel_rfl) (by kernel_rfl) (by decide) rfl (fun fs h => by cases h) (fun n et h => by cases h; exact ⟨ty281, by kernel_rfl⟩) (fun h => by cases h) rfl Tryz.zeroValue283
theorem cmp284 : CmpOk Tryz.prog 284 yt284.zero := .arrayB (e := 281) (by kernel_rfl) (by kernel_rfl) rfl (by kernel_rfl)
theorem tr284 : TyR Tryz.prog tab 284 yt284 := TyR.agg (b := 64) (zero := ty284.zero) (by kernel_rfl) (by kernel_rfl) (by decide) rfl (fun fs h => by cases h) (fun n et h => by cases h; exact ⟨ty281, by kernel_rfl⟩) (fun _ => cmp284) rfl Tryz.zeroValue284
theorem tr285 : TyR Tryz.prog tab 285 yt285 := TyR.one (b := 8) rfl (by kernel_rfl) rfl (by decide) rfl rfl rfl Tryz.zeroValue285
theorem tr286 : TyR Tryz.prog tab 286 yt286 := TyR.one (b := 8) rfl (by kernel_rfl) rfl (by decide) rfl rfl rfl Tryz.zeroValue286
theorem tr287 : TyR Tryz.prog tab 287 yt287 := TyR.agg (b := 64) (zero := ty287.zero) (by kernel_rfl) (by kernel_rfl) (by decide) rfl (fun fs h => by cases h) (fun n et h => by cases h; exact ⟨ty3, by kernel_rfl⟩) (fun h => by cases h) rfl Tryz.zeroValue287
theorem cmp288 : CmpOk Tryz.prog 288 yt288.zero := .arrayB (e := 3) (by kernel_rfl) (by kernel_rfl) rfl (by kernel_rfl)
theorem tr288 : TyR Tryz.prog tab 288 yt288 := TyR.agg (b := 64) (zero := ty288.zero) (by kernel_rfl) (by kernel_rfl) (by decide) rfl (fun fs h => by cases h) (fun n et h => by cases h; exact ⟨ty3, by kernel_rfl⟩) (fun _ => cmp288) rfl Tryz.zeroValue288
theorem tr289 : TyR Tryz.prog tab 289 yt289 := TyR.one (b := 8) rfl (by kernel_rfl) rfl (by decide) rfl rfl rfl Tryz.zeroValue289
theorem tr290 : TyR Tryz.prog tab 290 yt290 := TyR.one (b := 8) rfl (by kernel_rfl) rfl (by decide) rfl rfl rfl Tryz.zeroValue290
theorem tr291 : TyR Tryz.prog tab 291 yt291 := TyR.one (b := 8) rfl (by kernel_rfl) rfl (by decide) rfl rfl rfl Tryz.zeroValue291
theorem tr292 : TyR Tryz.prog tab 292 yt292 := TyR.one (b := 8) rfl (by kernel_rfl) rfl (by decide) rfl rfl rfl Tryz.zeroValue292
theorem tr293 : TyR Tryz.prog tab 293 yt293 := TyR.one (b := 8) rfl (by kernel_rfl) rfl (by decide) rfl rfl rfl Tryz.zeroValue293
theorem tr294 : TyR Tryz.prog tab 294 yt294 := TyR.one (b := 8) rfl (by kernel_rfl) rfl (by decide) rfl rfl rfl Tryz.zeroValue294
theorem tr295 : TyR Tryz.prog tab 295 yt295 := TyR.one (b := 8) rfl (by kernel_rfl) rfl (by decide) rfl rfl rfl Tryz.zeroValue295
theorem tr296 : TyR Tryz.prog tab 296 yt296 := TyR.one (b := 8) rfl (by kernel_rfl) rfl (by decide) rfl rfl rfl Tryz.zeroValue296
theorem tr297 : TyR Tryz.prog tab 297 yt297 := TyR.one (b := 8) rfl (by kernel_rfl) rfl (by decide) rfl rfl rfl Tryz.zeroValue297
theorem tr298 : TyR Tryz.prog tab 298 yt298 := TyR.one (b := 8) rfl (by kernel_rfl) rfl (by decide) rfl rfl rfl Tryz.zeroValue298
theorem tr299 : TyR Tryz.prog tab 299 yt299 := TyR.one (b := 8) rfl (by kernel_rfl) rfl (by decide) rfl rfl rfl Tryz.zeroValue299
theorem tr301 : TyR Tryz.prog tab 301 yt301 := TyR.one (b := 8) rfl (by kernel_rfl) rfl (by decide) rfl rfl rfl Tryz.zeroValue301
theorem tr302 : TyR Tryz.prog tab 302 yt302 := TyR.one (b := 8) rfl (by kernel_rfl) rfl (by decide) rfl rfl rfl Tryz.zeroValue302
theorem tr303 : TyR Tryz.prog tab 303 yt303 := TyR.one (b := 8) rfl (by kernel_rfl) rfl (by decide) rfl rfl rfl Tryz.zeroValue303
theorem tr304 : TyR Tryz.prog tab 304 yt304 := TyR.one (b := 8) rfl (by kernel_rfl) rfl (by decide) rfl rfl rfl Tryz.zeroValue304
theorem tr305 : TyR Tryz.prog tab 305 yt305 := TyR.one (b := 8) rfl (by kernel_rfl) rfl (by decide) rfl rfl rfl Tryz.zeroValue305
theorem tr306 : TyR Tryz.prog tab 306 yt306 := TyR.one (b := 8) rfl (by kernel_rfl) rfl (by decide) rfl rfl rfl Tryz.zeroValue306
theorem tr307 : TyR Tryz.prog tab 307 yt307 := TyR.one (b := 8) rfl (by kernel_rfl) rfl (by decide) rfl rfl rfl Tryz.zeroValue307
theorem tr308 : TyR Tryz.prog tab 308 yt308 := TyR.one (b := 24) rfl (by kernel_rfl) rfl (by decide) rfl rfl rfl Tryz.zeroValue308
theorem tr310 : TyR Tryz.prog tab 310 yt310 := TyR.one (b := 8) rfl (by kernel_rfl) rfl (by decide) rfl rfl rfl Tryz.zeroValue310
theorem tr311 : TyR Tryz.prog tab 311 yt311 := TyR.one (b := 8) rfl (by kernel_rfl) rfl (by decide) rfl rfl rfl Tryz.zeroValue311
theorem tr312 : TyR Tryz.prog tab 312 yt312 := TyR.agg (b := 2) (zero := ty312.zero) (by kernel_rfl) (by kernel_rfl) (by decide) rfl (fun fs h => by cases h; kernel_rfl) (fun n et h => by cases h) (fun h => by cases h) rfl Tryz.zeroValue312
theorem cmp313 : CmpOk Tryz.prog 313 yt313.zero := .structB (by kernel_rfl) (by kernel_rfl)
theorem tr313 : TyR Tryz.prog tab 313 yt313 := TyR.agg (b := 2) (zero := ty313.zero) (by kernel_rfl) (by kernel_rfl) (by decide) rfl (fun fs h => by cases h; kernel_rfl) (fun n et h => by cases h) (fun _ => cmp313) rfl Tryz.zeroValue313
theorem tr315 : TyR Tryz.prog tab 315 yt315 := TyR.one (b := 8) rfl (by kernel_rfl) rfl (by decide) rfl rfl rfl Tryz.zeroValue315
theorem tr317 : TyR Tryz.prog tab 317 yt317 := TyR.one (b := 8) rfl (by kernel_rfl) rfl (by decide) rfl rfl rfl Tryz.zeroValue317
theorem tr318 : TyR Tryz.prog tab 318 yt318 := TyR.one (b := 8) rfl (by kernel_rfl) rfl (by decide) rfl rfl rfl Tryz.zeroValue318
theorem tr319 : TyR Tryz.prog tab 319 yt319 := TyR.one (b := 8) rfl (by kernel_rfl) rfl (by decide) rfl rfl rfl Tryz.zeroValue319
theorem tr320 : TyR Tryz.prog tab 320 yt320 := TyR.one (b := 8) rfl (by kernel_rfl) rfl (by decide) rfl rfl rfl Tryz.zeroValue320
theorem tr321 : TyR Tryz.prog tab 321 yt321 := TyR.one (b := 8) rfl (by kernel_rfl) rfl (by decide) rfl rfl rfl Tryz.zeroValue321
theorem tr322 : TyR Tryz.prog tab 322 yt322 := TyR.one (b := 8) rfl (by kernel_rfl) rfl (by decide) rfl rfl rfl Tryz.zeroValue322
theorem tr323 : TyR Tryz.prog tab 323 yt323 := TyR.one (b := 8) rfl (by kernel_rfl) rfl (by decide) rfl rfl rfl Tryz.zeroValue323
theorem tr324 : TyR Tryz.prog tab 324 yt324 := TyR.one (b := 8) rfl (by kernel_rfl) rfl (by decide) rfl rfl rfl Tryz.zeroValue324
theorem tr325 : TyR Tryz.prog tab 325 yt325 := TyR.one (b := 8) rfl (by kernel_rfl) rfl (by decide) rfl rfl rfl Tryz.zeroValue325
theorem tr326 : TyR Tryz.prog tab 326 yt326 := TyR.one (b := 8) rfl (by kernel_rfl) rfl (by decide) rfl rfl rfl Tryz.zeroValue326
theorem tr327 : TyR Tryz.prog tab 327 yt327 := TyR.one (b := 8) rfl (by kernel_rfl) rfl (by decide) rfl rfl rfl Tryz.zeroValue327
theorem tr328 : TyR Tryz.prog tab 328 yt328 := TyR.one (b := 8) rfl (by kernel_rfl) rfl (by decide) rfl rfl rfl Tryz.zeroValue328
theorem tr329 : TyR Tryz.prog tab 329 yt329 := TyR.one (b := 8) rfl (by kernel_rfl) rfl (by decide) rfl rfl rfl Tryz.zeroValue329
theorem tr330 : TyR Tryz.prog tab 330 yt330 := TyR.one (b := 8) rfl (by kernel_rfl) rfl (by decide) rfl rfl rfl Tryz.zeroValue330
theorem tr331 : TyR Tryz.prog tab 331 yt331 := TyR.one (b := 8) rfl (by kernel_rfl) rfl (by decide) rfl rfl rfl Tryz.zeroValue331
theorem tr333 : TyR Tryz.prog tab 333 yt333 := TyR.one (b := 8) rfl (by kernel_rfl) rfl (by decide) rfl rfl rfl Tryz.zeroValue333
theorem tr335 : TyR Tryz.prog tab 335 yt335 := TyR.one (b := 8) rfl (by kernel_rfl) rfl (by decide) rfl rfl rfl Tryz.zeroValue335
theorem tr336 : TyR Tryz.prog tab 336 yt336 := TyR.one (b := 8) rfl (by kernel_rfl) rfl (by decide) rfl rfl rfl Tryz.zeroValue336
theorem tr337 : TyR Tryz.prog tab 337 yt337 := TyR.one (b := 8) rfl (by kernel_rfl) rfl (by decide) rfl rfl rfl Tryz.zeroValue337
theorem tr338 : TyR Tryz.prog tab 338 yt338 := TyR.one (b := 8) rfl (by kernel_rfl) rfl (by decide) rfl rfl rfl Tryz.zeroValue338
theorem tr339 : TyR Tryz.prog tab 339 yt339 := TyR.one (b := 8) rfl (by kernel_rfl) rfl (by decide) rfl rfl rfl Tryz.zeroValue339
theorem tr340 : TyR Tryz.prog tab 340 yt340 := TyR.one (b := 8) rfl (by kernel_rfl) rfl (by decide) rfl rfl rfl Tryz.zeroValue340
theorem tr341 : TyR Tryz.prog tab 341 yt341 := TyR.one (b := 8) rfl (by kernel_rfl) rfl (by decide) rfl rfl rfl Tryz.zeroValue341
theorem tr342 : TyR Tryz.prog tab 342 yt342 := TyR.one (b := 8) rfl (by kernel_rfl) rfl (by decide) rfl rfl rfl Tryz.zeroValue342
theorem tr343 : TyR Tryz.prog tab 343 yt343 := TyR.one (b := 8) rfl (by kernel_rfl) rfl (by decide) rfl rfl rfl Tryz.zeroValue343
theorem tr344 : TyR Tryz.prog tab 344 yt344 := TyR.one (b := 8) rfl (by kernel_rfl) rfl (by decide) rfl rfl rfl Tryz.zeroValue344
theorem tr345 : TyR Tryz.prog tab 345 yt345 := TyR.one (b := 8) rfl (by kernel_rfl) rfl (by decide) rfl rfl rfl Tryz.zeroValue345
theorem tr346 : TyR Tryz.prog tab 346 yt346 := TyR.one (b := 8) rfl (by kernel_rfl) rfl (by decide) rfl rfl rfl Tryz.zeroValue346
theorem tr347 : TyR Tryz.prog tab 347 yt347 := TyR.one (b := 8) rfl (by kernel_rfl) rfl (by decide) rfl rfl rfl Tryz.zeroValue347
theorem tr348 : TyR Tryz.prog tab 348 yt348 := TyR.one (b := 8) rfl (by kernel_rfl) rfl (by decide) rfl rfl rfl Tryz.zeroValue348
theorem tr349 : TyR Tryz.prog tab 349 yt349 := TyR.one (b := 8) rfl (by kernel_rfl) rfl (by decide) rfl rfl rfl Tryz.zeroValue349
theorem tr350 : TyR Tryz.prog tab 350 yt350 := TyR.one (b := 8) rfl (by kernel_rfl) rfl (by decide) rfl rfl rfl Tryz.zeroValue350
theorem tr351 : TyR Tryz.prog tab 351 yt351 := TyR.one (b := 8) rfl (by kernel_rfl) rfl (by decide) rfl rfl rfl Tryz.zeroValue351
theorem tr352 : TyR Tryz.prog tab 352 yt352 := TyR.one (b := 8) rfl (by kernel_rfl) rfl (by decide) rfl rfl rfl Tryz.zeroValue352
theorem tr353 : TyR Tryz.prog tab 353 yt353 := TyR.one (b := 8) rfl (by kernel_rfl) rfl (by decide) rfl rfl rfl Tryz.zeroValue353
theorem tr354 : TyR Tryz.prog tab 354 yt354 := TyR.one (b := 8) rfl (by kernel_rfl) rfl (by decide) rfl rfl rfl Tryz.zeroValue354
theorem tr355 : TyR Tryz.prog tab 355 yt355 := TyR.one (b := 8) rfl (by kernel_rfl) rfl (by decide) rfl rfl rfl Tryz.zeroValue355
theorem tr356 : TyR Tryz.prog tab 356 yt356 := TyR.agg (b := 40) (zero := ty356.zero) (by kernel_rfl) (by kernel_rfl) (by decide) rfl (fun fs h => by cases h; kernel_rfl) (fun n et h => by cases h) (fun h => by cases h) rfl Tryz.zeroValue356
theorem tr357 : TyR Tryz.prog tab 357 yt357 := TyR.agg (b := 40) (zero := ty357.zero) (by kernel_rfl) (by kernel_rfl) (by decide) rfl (fun fs h => by cases h; kernel_rfl) (fun n et h => by cases h) (fun h => by cases h) rfl Tryz.zeroValue357
theorem tr358 : TyR Tryz.prog tab 358 yt358 := TyR.agg (b := 0) (zero := ty358.zero) (by kernel_rfl) (by kernel_rfl) (by decide) rfl (fun fs h => by cases h) (fun n et h => by cases h; exact ⟨ty16, by kernel_rfl⟩) (fun h => by cases h) rfl Tryz.zeroValue358
theorem tr359 : TyR Tryz.prog tab 359 yt359 := TyR.agg (b := 0) (zero := ty359.zero) (by kernel_rfl) (by kernel_rfl) (by decide) rfl (fun fs h => by cases h; kernel_rfl) (fun n et h => by cases h) (fun h => by cases h) rfl Tryz.zeroValue359
theorem tr360 : TyR Tryz.prog tab 360 yt360 := TyR.agg (b := 0) (zero := ty360.zero) (by kernel_rfl) (by kernel_rfl) (by decide) rfl (fun fs h => by cases h; kernel_rfl) (fun n et h => by cases h) (fun h => by cases h) rfl Tryz.zeroValue360
theorem tr361 : TyR Tryz.prog tab 361 yt361 := TyR.one (b := 1) rfl (by kernel_rfl) rfl (by decide) rfl rfl rfl Tryz.zeroValue361
theorem tr362 : TyR Tryz.prog tab 362 yt362 := TyR.one (b := 1) rfl (by kernel_rfl) rfl (by decide) rfl rfl rfl Tryz.zeroValue362
theorem tr363 : TyR Tryz.prog tab 363 yt363 := TyR.one (b := 8) rfl (by kernel_rfl) rfl (by decide) rfl rfl rfl Tryz.zeroValue363
theorem tr364 : TyR Tryz.prog tab 364 yt364 := TyR.one (b := 8) rfl (by kernel_rfl) rfl (by decide) rfl rfl rfl Tryz.zeroValue364
theorem tr365 : TyR Tryz.prog tab 365 yt365 := TyR.one (b := 4) rfl (by kernel_rfl) rfl (by decide) rfl rfl rfl Tryz.zeroValue365
theorem tr366 : TyR Tryz.prog tab 366 yt366 := TyR.one (b := 4) rfl (by kernel_rfl) rfl (by decide) rfl rfl rfl Tryz.zeroValue366
theorem tr367 : TyR Tryz.prog tab 367 yt367 := TyR.agg (b := 48) (zero := ty367.zero) (by kernel_rfl) (by kernel_rfl) (by decide) rfl (fun fs h => by cases h; kernel_rfl) (fun n et h => by cases h) (fun h => by cases h) rfl Tryz.zeroValue367
theorem tr368 : TyR Tryz.prog tab 368 yt368 := TyR.agg (b := 48) (zero := ty368.zero) (by kernel_rfl) (by kernel_rfl) (by decide) rfl (fun fs h => by cases h; kernel_rfl) (fun n et h => by cases h) (fun h => by cases h) rfl Tryz.zeroValue368
theorem tyT_ok : T.All (TyR Tryz.prog tab) tyT := ⟨trivial, ⟨tr1, ⟨tr3, ⟨tr7, ⟨tr15, ⟨tr31, ⟨tr63, ⟨tr127, trivial, trivial⟩, ⟨tr191, ⟨tr319, trivial, trivial⟩, trivial⟩⟩, ⟨tr95, ⟨tr159, ⟨tr287, trivial, trivial⟩, trivial⟩, ⟨tr223, ⟨tr351, trivial, trivial⟩, trivial⟩⟩⟩, ⟨tr47, ⟨tr79, ⟨tr143, trivial, trivial⟩, ⟨tr207, ⟨tr335, trivial, trivial⟩, trivial⟩⟩, ⟨trivial, ⟨tr175, ⟨tr303, trivial, trivial⟩, trivial⟩, ⟨tr239, ⟨tr367, trivial, trivial⟩, trivial⟩⟩⟩⟩, ⟨tr23, ⟨tr39, ⟨tr71, ⟨tr135, ⟨tr263, trivial, trivial⟩, trivial⟩, ⟨tr199, ⟨tr327, trivial, trivial⟩, trivial⟩⟩, ⟨tr103, ⟨trivial, ⟨tr295, trivial, trivial⟩, trivial⟩, ⟨tr231, ⟨tr359, trivial, trivial⟩, trivial⟩⟩⟩, ⟨tr55, ⟨tr87, ⟨tr151, ⟨tr279, trivial, trivial⟩, trivial⟩, ⟨tr215, ⟨tr343, trivial, trivial⟩, trivial⟩⟩, ⟨trivial, ⟨tr183, ⟨tr311, trivial, trivial⟩, trivial⟩, ⟨tr247, trivial, trivial⟩⟩⟩⟩⟩, ⟨tr11, ⟨tr19, ⟨tr35, ⟨tr67, ⟨tr131, ⟨tr259, trivial, trivial⟩, trivial⟩, ⟨tr195, ⟨tr323, trivial, trivial⟩, trivial⟩⟩, ⟨tr99, ⟨tr163, ⟨tr291, trivial, trivial⟩, trivial⟩, ⟨tr227, ⟨tr355, trivial, trivial⟩, trivial⟩⟩⟩, ⟨tr51, ⟨tr83, ⟨tr147, ⟨tr275, trivial, trivial⟩, trivial⟩, ⟨tr211, ⟨tr339, trivial, trivial⟩, trivial⟩⟩, ⟨tr115, ⟨tr179, ⟨tr307, trivial, trivial⟩, trivial⟩, ⟨tr243, trivial, trivial⟩⟩⟩⟩, ⟨tr27, ⟨tr43, ⟨tr75, ⟨tr139, ⟨tr267, trivial, trivial⟩, trivial⟩, ⟨tr203, ⟨tr331, trivial, trivial⟩, trivial⟩⟩, ⟨tr107, ⟨tr171, ⟨tr299, trivial, trivial⟩, trivial⟩, ⟨tr235, ⟨tr363, trivial, trivial⟩, trivial⟩⟩⟩, ⟨tr59, ⟨tr91, ⟨tr155, ⟨tr283, trivial, trivial⟩, trivial⟩, ⟨tr219, ⟨tr347, trivial, trivial⟩, trivial⟩⟩, ⟨tr123, ⟨tr187, ⟨tr315, trivial, trivial⟩, trivial⟩, ⟨tr251, trivial, trivial⟩⟩⟩⟩⟩⟩, ⟨tr5, ⟨tr9, ⟨tr17, ⟨tr33, ⟨tr65, ⟨tr129, ⟨tr257, trivial, trivial⟩, trivial⟩, ⟨tr193, ⟨tr321, trivial, trivial⟩, trivial⟩⟩, ⟨tr97, ⟨tr161, ⟨tr289, trivial, trivial⟩, trivial⟩, ⟨tr225, ⟨tr353, trivial, trivial⟩, trivial⟩⟩⟩, ⟨tr49, ⟨tr81, ⟨tr145, ⟨tr273, trivial, trivial⟩, trivial⟩, ⟨tr209, ⟨tr337, trivial, trivial⟩, trivial⟩⟩, ⟨trivial, ⟨tr177, ⟨tr305, trivial, trivial⟩, trivial⟩, ⟨tr241, trivial, trivial⟩⟩⟩⟩, ⟨tr25, ⟨tr41, ⟨tr73, ⟨tr137, ⟨tr265, trivial, trivial⟩, trivial⟩, ⟨tr201, ⟨tr329, trivial, trivial⟩, trivial⟩⟩, ⟨tr105, ⟨tr169, ⟨tr297, trivial, trivial⟩, trivial⟩, ⟨tr233, ⟨tr361, trivial, trivial⟩, trivial⟩⟩⟩, ⟨tr57, ⟨tr89, ⟨tr153, ⟨tr281, trivial, trivial⟩, trivial⟩, ⟨trivial, ⟨tr345, trivial, trivial⟩, trivial⟩⟩, ⟨tr121, ⟨tr185, ⟨tr313, trivial, trivial⟩, trivial⟩, ⟨tr249, trivial, trivial⟩⟩⟩⟩⟩, ⟨tr13, ⟨tr21, ⟨tr37, ⟨tr69, ⟨tr133, ⟨tr261, trivial, trivial⟩, trivial⟩, ⟨tr197, ⟨tr325, trivial, trivial⟩, trivial⟩⟩, ⟨tr101, ⟨tr165, ⟨tr293, trivial, trivial⟩, trivial⟩, ⟨tr229, ⟨tr357, trivial, trivial⟩, trivial⟩⟩⟩, ⟨tr53, ⟨tr85, ⟨tr149, ⟨tr277, trivial, trivial⟩, trivial⟩, ⟨tr213, ⟨tr341, trivial, trivial⟩, trivial⟩⟩, ⟨tr117, ⟨tr181, trivial, trivial⟩, ⟨tr245, trivial, trivial⟩⟩⟩⟩, ⟨tr29, ⟨tr45, ⟨tr77, ⟨tr141, ⟨tr269, trivial, trivial⟩, trivial⟩, ⟨tr205, ⟨tr333, trivial, trivial⟩, trivial⟩⟩, ⟨tr109, ⟨tr173, ⟨tr301, trivial, trivial⟩, trivial⟩, ⟨tr237, ⟨tr365, trivial, trivial⟩, trivial⟩⟩⟩, ⟨tr61, ⟨tr93, ⟨tr157, ⟨tr285, trivial, trivial⟩, trivial⟩, ⟨tr221, ⟨tr349, trivial, trivial⟩, trivial⟩⟩, ⟨tr125, ⟨tr189, ⟨tr317, trivial, trivial⟩, trivial⟩, ⟨tr253, trivial, trivial⟩⟩⟩⟩⟩⟩⟩, ⟨tr2, ⟨tr4, ⟨tr8, ⟨tr16, ⟨tr32, ⟨tr64, ⟨tr128, ⟨tr256, trivial, trivial⟩, trivial⟩, ⟨tr192, ⟨tr320, trivial, trivial⟩, trivial⟩⟩, ⟨tr96, ⟨trivial, ⟨tr288, trivial, trivial⟩, trivial⟩, ⟨tr224, ⟨tr352, trivial, trivial⟩, trivial⟩⟩⟩, ⟨trivial, ⟨tr80, ⟨tr144, ⟨tr272, trivial, trivial⟩, trivial⟩, ⟨tr208, ⟨tr336, trivial, trivial⟩, trivial⟩⟩, ⟨tr112, ⟨tr176, ⟨tr304, trivial, trivial⟩, trivial⟩, ⟨tr240, ⟨tr368, trivial, trivial⟩, trivial⟩⟩⟩⟩, ⟨tr24, ⟨tr40, ⟨tr72, ⟨tr136, ⟨tr264, trivial, trivial⟩, trivial⟩, ⟨trivial, ⟨tr328, trivial, trivial⟩, trivial⟩⟩, ⟨tr104, ⟨tr168, ⟨tr296, trivial, trivial⟩, trivial⟩, ⟨tr232, ⟨tr360, trivial, trivial⟩, trivial⟩⟩⟩, ⟨tr56, ⟨tr88, ⟨tr152, ⟨tr280, trivial, trivial⟩, trivial⟩, ⟨tr216, ⟨tr344, trivial, trivial⟩, trivial⟩⟩, ⟨tr120, ⟨tr184, ⟨tr312, trivial, trivial⟩, trivial⟩, ⟨tr248, trivial, trivial⟩⟩⟩⟩⟩, ⟨tr12, ⟨tr20, ⟨tr36, ⟨tr68, ⟨tr132, trivial, trivial⟩, ⟨tr196, ⟨tr324, trivial, trivial⟩, trivial⟩⟩, ⟨tr100, ⟨trivial, ⟨tr292, trivial, trivial⟩, trivial⟩, ⟨tr228, ⟨tr356, trivial, trivial⟩, trivial⟩⟩⟩, ⟨trivial, ⟨tr84, ⟨tr148, ⟨tr276, trivial, trivial⟩, trivial⟩, ⟨tr212, ⟨tr340, trivial, trivial⟩, trivial⟩⟩, ⟨tr116, ⟨tr180, ⟨tr308, trivial, trivial⟩, trivial⟩, trivial⟩⟩⟩, ⟨tr28, ⟨trivial, ⟨tr76, ⟨tr140, ⟨tr268, trivial, trivial⟩, trivial⟩, trivial⟩, ⟨tr108, ⟨tr172, trivial, trivial⟩, ⟨tr236, ⟨tr364, trivial, trivial⟩, trivial⟩⟩⟩, ⟨tr60, ⟨tr92, ⟨tr156, ⟨tr284, trivial, trivial⟩, trivial⟩, ⟨tr220, ⟨tr348, trivial, trivial⟩, trivial⟩⟩, ⟨tr124, ⟨tr188, trivial, trivial⟩, ⟨tr252, trivial, trivial⟩⟩⟩⟩⟩⟩, ⟨tr6, ⟨tr10, ⟨tr18, ⟨tr34, ⟨tr66, ⟨tr130, ⟨tr258, trivial, trivial⟩, trivial⟩, ⟨tr194, ⟨tr322, trivial, trivial⟩, trivial⟩⟩, ⟨tr98, ⟨trivial, ⟨tr290, trivial, trivial⟩, trivial⟩, ⟨tr226, ⟨tr354, trivial, trivial⟩, trivial⟩⟩⟩, ⟨trivial, ⟨trivial, ⟨tr146, ⟨tr274, trivial, trivial⟩, trivial⟩, ⟨tr210, ⟨tr338, trivial, trivial⟩, trivial⟩⟩, ⟨tr114, ⟨tr178, ⟨tr306, trivial, trivial⟩, trivial⟩, ⟨tr242, trivial, trivial⟩⟩⟩⟩, ⟨tr26, ⟨tr42, ⟨tr74, ⟨tr138, trivial, trivial⟩, ⟨trivial, ⟨tr330, trivial, trivial⟩, trivial⟩⟩, ⟨tr106, ⟨tr170, ⟨tr298, trivial, trivial⟩, trivial⟩, ⟨tr234, ⟨tr362, trivial, trivial⟩, trivial⟩⟩⟩, ⟨tr58, ⟨tr90, ⟨tr154, ⟨tr282, trivial, trivial⟩, trivial⟩, ⟨tr218, ⟨tr346, trivial, trivial⟩, trivial⟩⟩, ⟨tr122, ⟨tr186, trivial, trivial⟩, ⟨tr250, trivial, trivial⟩⟩⟩⟩⟩, ⟨tr14, ⟨tr22, ⟨tr38, ⟨tr70, ⟨tr134, ⟨tr262, trivial, trivial⟩, trivial⟩, ⟨trivial, ⟨tr326, trivial, trivial⟩, trivial⟩⟩, ⟨tr102, ⟨tr166, ⟨tr294, trivial, trivial⟩, trivial⟩, ⟨tr230, ⟨tr358, trivial, trivial⟩, trivial⟩⟩⟩, ⟨tr54, ⟨tr86, ⟨tr150, ⟨tr278, trivial, trivial⟩, trivial⟩, ⟨tr214, ⟨tr342, trivial, trivial⟩, trivial⟩⟩, ⟨tr118, ⟨tr182, ⟨tr310, trivial, trivial⟩, trivial⟩, ⟨tr246, trivial, trivial⟩⟩⟩⟩, ⟨tr30, ⟨tr46, ⟨tr78, ⟨tr142, ⟨tr270, trivial, trivial⟩, trivial⟩, ⟨tr206, trivial, trivial⟩⟩, ⟨tr110, ⟨tr174, ⟨tr302, trivial, trivial⟩, trivial⟩, ⟨tr238, ⟨tr366, trivial, trivial⟩, trivial⟩⟩⟩, ⟨tr62, ⟨tr94, ⟨tr158, ⟨tr286, trivial, trivial⟩, trivial⟩, ⟨tr222, ⟨tr350, trivial, trivial⟩, trivial⟩⟩, ⟨tr126, ⟨tr190, ⟨tr318, trivial, trivial⟩, trivial⟩, ⟨tr254, trivial, trivial⟩⟩⟩⟩⟩⟩⟩⟩
end Go.Proofs.YtkkeimpmafllpaaGreatDoor
