/- The types of the evaluator's tables (written by wip/tools/ytab.py). -/
import Derived.Test.YtbingohaiippeaaGreatDoorYT
import Derived.Test.YtbingohaiippeaaGreatDoorYE
namespace Go.Proofs.YtbingohaiippeaaGreatDoor
open Go.Y
set_option maxRecDepth 100000
theorem tr1 : TyR Tryz.prog tab 1 yt1 := TyR.one (b := 8) rfl (by kernel_rfl) rfl (by decide) rfl rfl rfl Tryz.zeroValue1
theorem tr2 : TyR Tryz.prog tab 2 yt2 := TyR.one (b := 8) rfl (by kernel_rfl) rfl (by decide) rfl rfl rfl Tryz.zeroValue2
theorem tr3 : TyR Tryz.prog tab 3 yt3 := TyR.one (b := 8) rfl (by kernel_rfl) rfl (by decide) rfl rfl rfl Tryz.zeroValue3
theorem tr4 : TyR Tryz.prog tab 4 yt4 := TyR.one (b := 1) rfl (by kernel_rfl) rfl (by decide) rfl rfl rfl Tryz.zeroValue4
theorem tr5 : TyR Tryz.prog tab 5 yt5 := TyR.one (b := 1) rfl (by kernel_rfl) rfl (by decide) rfl rfl rfl Tryz.zeroValue5
theorem tr6 : TyR Tryz.prog tab 6 yt6 := TyR.one (b := 1) rfl (by kernel_rfl) rfl (by decide) rfl rfl rfl Tryz.zeroValue6
theorem tr7 : TyR Tryz.prog tab 7 yt7 := TyR.agg (b := 24) (zero := ty7.zero) (by kernel_rfl) (by kernel_rfl) (by decide) rfl (fun fs h => by cases h; kernel_rfl) (fun n et h => by cases h) (fun h => by cases h) rfl Tryz.zeroValue7
theorem tr8 : TyR Tryz.prog tab 8 yt8 := TyR.agg (b := 24) (zero := ty8.zero) (by kernel_rfl) (by kernel_rfl) (by decide) rfl (fun fs h => by cases h; kernel_rfl) (fun n et h => by cases h) (fun h => by cases h) rfl Tryz.zeroValue8
theorem tr9 : TyR Tryz.prog tab 9 yt9 := TyR.one (b := 16) rfl (by kernel_rfl) rfl (by decide) rfl rfl rfl Tryz.zeroValue9
theorem tr10 : TyR Tryz.prog tab 10 yt10 := TyR.one (b := 16) rfl (by kernel_rfl) rfl (by decide) rfl rfl rfl Tryz.zeroValue10
theorem tr11 : TyR Tryz.prog tab 11 yt11 := TyR.one (b := 16) rfl (by kernel_rfl) rfl (by decide) rfl rfl rfl Tryz.zeroValue11
theorem tr12 : TyR Tryz.prog tab 12 yt12 := TyR.one (b := 8) rfl (by kernel_rfl) rfl (by decide) rfl rfl rfl Tryz.zeroValue12
theorem tr13 : TyR Tryz.prog tab 13 yt13 := TyR.agg (b := 24) (zero := ty13.zero) (by kernel_rfl) (by kernel_rfl) (by decide) rfl (fun fs h => by cases h; kernel_rfl) (fun n et h => by cases h) (fun h => by cases h) rfl Tryz.zeroValue13
theorem tr14 : TyR Tryz.prog tab 14 yt14 := TyR.agg (b := 24) (zero := ty14.zero) (by kernel_rfl) (by kernel_rfl) (by decide) rfl (fun fs h => by cases h; kernel_rfl) (fun n et h => by cases h) (fun h => by cases h) rfl Tryz.zeroValue14
theorem tr15 : TyR Tryz.prog tab 15 yt15 := TyR.one (b := 8) rfl (by kernel_rfl) rfl (by decide) rfl rfl rfl Tryz.zeroValue15
theorem tr16 : TyR Tryz.prog tab 16 yt16 := TyR.one (b := 8) rfl (by kernel_rfl) rfl (by decide) rfl rfl rfl Tryz.zeroValue16
theorem tr17 : TyR Tryz.prog tab 17 yt17 := TyR.one (b := 8) rfl (by kernel_rfl) rfl (by decide) rfl rfl rfl Tryz.zeroValue17
theorem tr18 : TyR Tryz.prog tab 18 yt18 := TyR.agg (b := 8) (zero := ty18.zero) (by kernel_rfl) (by kernel_rfl) (by decide) rfl (fun fs h => by cases h; kernel_rfl) (fun n et h => by cases h) (fun h => by cases h) rfl Tryz.zeroValue18
theorem tr19 : TyR Tryz.prog tab 19 yt19 := TyR.agg (b := 8) (zero := ty19.zero) (by kernel_rfl) (by kernel_rfl) (by decide) rfl (fun fs h => by cases h; kernel_rfl) (fun n et h => by cases h) (fun h => by cases h) rfl Tryz.zeroValue19
theorem tr20 : TyR Tryz.prog tab 20 yt20 := TyR.one (b := 16) rfl (by kernel_rfl) rfl (by decide) rfl rfl rfl Tryz.zeroValue20
theorem tr21 : TyR Tryz.prog tab 21 yt21 := TyR.one (b := 4) rfl (by kernel_rfl) rfl (by decide) rfl rfl rfl Tryz.zeroValue21
theorem tr22 : TyR Tryz.prog tab 22 yt22 := TyR.one (b := 8) rfl (by kernel_rfl) rfl (by decide) rfl rfl rfl Tryz.zeroValue22
theorem tr23 : TyR Tryz.prog tab 23 yt23 := TyR.one (b := 8) rfl (by kernel_rfl) rfl (by decide) rfl rfl rfl Tryz.zeroValue23
theorem tr24 : TyR Tryz.prog tab 24 yt24 := TyR.agg (b := 32) (zero := ty24.zero) (by kernel_rfl) (by kernel_rfl) (by decide) rfl (fun fs h => by cases h; kernel_rfl) (fun n et h => by cases h) (fun h => by cases h) rfl Tryz.zeroValue24
theorem tr25 : TyR Tryz.prog tab 25 yt25 := TyR.agg (b := 32) (zero := ty25.zero) (by kernel_rfl) (by kernel_rfl) (by decide) rfl (fun fs h => by cases h; kernel_rfl) (fun n et h => by cases h) (fun h => by cases h) rfl Tryz.zeroValue25
theorem tr26 : TyR Tryz.prog tab 26 yt26 := TyR.one (b := 24) rfl (by kernel_rfl) rfl (by decide) rfl rfl rfl Tryz.zeroValue26
theorem tr27 : TyR Tryz.prog tab 27 yt27 := TyR.agg (b := 40) (zero := ty27.zero) (by kernel_rfl) (by kernel_rfl) (by decide) rfl (fun fs h => by cases h; kernel_rfl) (fun n et h => by cases h) (fun h => by cases h) rfl Tryz.zeroValue27
theorem tr28 : TyR Tryz.prog tab 28 yt28 := TyR.agg (b := 40) (zero := ty28.zero) (by kernel_rfl) (by kernel_rfl) (by decide) rfl (fun fs h => by cases h; kernel_rfl) (fun n et h => by cases h) (fun h => by cases h) rfl Tryz.zeroValue28
theorem tr29 : TyR Tryz.prog tab 29 yt29 := TyR.one (b := 8) rfl (by kernel_rfl) rfl (by decide) rfl rfl rfl Tryz.zeroValue29
theorem tr30 : TyR Tryz.prog tab 30 yt30 := TyR.one (b := 24) rfl (by kernel_rfl) rfl (by decide) rfl rfl rfl Tryz.zeroValue30
theorem tr31 : TyR Tryz.prog tab 31 yt31 := TyR.one (b := 24) rfl (by kernel_rfl) rfl (by decide) rfl rfl rfl Tryz.zeroValue31
theorem tr32 : TyR Tryz.prog tab 32 yt32 := TyR.one (b := 8) rfl (by kernel_rfl) rfl (by decide) rfl rfl rfl Tryz.zeroValue32
theorem tr33 : TyR Tryz.prog tab 33 yt33 := TyR.agg (b := 128) (zero := ty33.zero) (by kernel_rfl) (by kernel_rfl) (by decide) rfl (fun fs h => by cases h; kernel_rfl) (fun n et h => by cases h) (fun h => by cases h) rfl Tryz.zeroValue33
theorem tr34 : TyR Tryz.prog tab 34 yt34 := TyR.agg (b := 128) (zero := ty34.zero) (by kernel_rfl) (by kernel_rfl) (by decide) rfl (fun fs h => by cases h; kernel_rfl) (fun n et h => by cases h) (fun h => by cases h) rfl Tryz.zeroValue34
theorem tr35 : TyR Tryz.prog tab 35 yt35 := TyR.one (b := 8) rfl (by kernel_rfl) rfl (by decide) rfl rfl rfl Tryz.zeroValue35
theorem tr37 : TyR Tryz.prog tab 37 yt37 := TyR.one (b := 8) rfl (by kernel_rfl) rfl (by decide) rfl rfl rfl Tryz.zeroValue37
theorem tr39 : TyR Tryz.prog tab 39 yt39 := TyR.one (b := 8) rfl (by kernel_rfl) rfl (by decide) rfl rfl rfl Tryz.zeroValue39
theorem tr40 : TyR Tryz.prog tab 40 yt40 := TyR.one (b := 8) rfl (by kernel_rfl) rfl (by decide) rfl rfl rfl Tryz.zeroValue40
theorem tr42 : TyR Tryz.prog tab 42 yt42 := TyR.one (b := 8) rfl (by kernel_rfl) rfl (by decide) rfl rfl rfl Tryz.zeroValue42
theorem tr43 : TyR Tryz.prog tab 43 yt43 := TyR.one (b := 8) rfl (by kernel_rfl) rfl (by decide) rfl rfl rfl Tryz.zeroValue43
theorem tr44 : TyR Tryz.prog tab 44 yt44 := TyR.one (b := 8) rfl (by kernel_rfl) rfl (by decide) rfl rfl rfl Tryz.zeroValue44
theorem tr45 : TyR Tryz.prog tab 45 yt45 := TyR.one (b := 8) rfl (by kernel_rfl) rfl (by decide) rfl rfl rfl Tryz.zeroValue45
theorem tr46 : TyR Tryz.prog tab 46 yt46 := TyR.one (b := 8) rfl (by kernel_rfl) rfl (by decide) rfl rfl rfl Tryz.zeroValue46
theorem tr47 : TyR Tryz.prog tab 47 yt47 := TyR.one (b := 8) rfl (by kernel_rfl) rfl (by decide) rfl rfl rfl Tryz.zeroValue47
theorem tr48 : TyR Tryz.prog tab 48 yt48 := TyR.one (b := 8) rfl (by kernel_rfl) rfl (by decide) rfl rfl rfl Tryz.zeroValue48
theorem tr49 : TyR Tryz.prog tab 49 yt49 := TyR.one (b := 8) rfl (by kernel_rfl) rfl (by decide) rfl rfl rfl Tryz.zeroValue49
theorem tr50 : TyR Tryz.prog tab 50 yt50 := TyR.one (b := 8) rfl (by kernel_rfl) rfl (by decide) rfl rfl rfl Tryz.zeroValue50
theorem tr51 : TyR Tryz.prog tab 51 yt51 := TyR.one (b := 8) rfl (by kernel_rfl) rfl (by decide) rfl rfl rfl Tryz.zeroValue51
theorem tr53 : TyR Tryz.prog tab 53 yt53 := TyR.one (b := 8) rfl (by kernel_rfl) rfl (by decide) rfl rfl rfl Tryz.zeroValue53
theorem tr54 : TyR Tryz.prog tab 54 yt54 := TyR.one (b := 8) rfl (by kernel_rfl) rfl (by decide) rfl rfl rfl Tryz.zeroValue54
theorem tr55 : TyR Tryz.prog tab 55 yt55 := TyR.agg (b := 88) (zero := ty55.zero) (by kernel_rfl) (by kernel_rfl) (by decide) rfl (fun fs h => by cases h; kernel_rfl) (fun n et h => by cases h) (fun h => by cases h) rfl Tryz.zeroValue55
theorem tr56 : TyR Tryz.prog tab 56 yt56 := TyR.agg (b := 88) (zero := ty56.zero) (by kernel_rfl) (by kernel_rfl) (by decide) rfl (fun fs h => by cases h; kernel_rfl) (fun n et h => by cases h) (fun h => by cases h) rfl Tryz.zeroValue56
theorem tr57 : TyR Tryz.prog tab 57 yt57 := TyR.one (b := 8) rfl (by kernel_rfl) rfl (by decide) rfl rfl rfl Tryz.zeroValue57
theorem tr58 : TyR Tryz.prog tab 58 yt58 := TyR.agg (b := 48) (zero := ty58.zero) (by kernel_rfl) (by kernel_rfl) (by decide) rfl (fun fs h => by cases h; kernel_rfl) (fun n et h => by cases h) (fun h => by cases h) rfl Tryz.zeroValue58
theorem tr59 : TyR Tryz.prog tab 59 yt59 := TyR.agg (b := 48) (zero := ty59.zero) (by kernel_rfl) (by kernel_rfl) (by decide) rfl (fun fs h => by cases h; kernel_rfl) (fun n et h => by cases h) (fun h => by cases h) rfl Tryz.zeroValue59
theorem tr60 : TyR Tryz.prog tab 60 yt60 := TyR.one (b := 8) rfl (by kernel_rfl) rfl (by decide) rfl rfl rfl Tryz.zeroValue60
theorem tr61 : TyR Tryz.prog tab 61 yt61 := TyR.one (b := 8) rfl (by kernel_rfl) rfl (by decide) rfl rfl rfl Tryz.zeroValue61
theorem tr62 : TyR Tryz.prog tab 62 yt62 := TyR.one (b := 8) rfl (by kernel_rfl) rfl (by decide) rfl rfl rfl Tryz.zeroValue62
theorem tr63 : TyR Tryz.prog tab 63 yt63 := TyR.agg (b := 24) (zero := ty63.zero) (by kernel_rfl) (by kernel_rfl) (by decide) rfl (fun fs h => by cases h; kernel_rfl) (fun n et h => by cases h) (fun h => by cases h) rfl Tryz.zeroValue63
theorem tr64 : TyR Tryz.prog tab 64 yt64 := TyR.agg (b := 24) (zero := ty64.zero) (by kernel_rfl) (by kernel_rfl) (by decide) rfl (fun fs h => by cases h; kernel_rfl) (fun n et h => by cases h) (fun h => by cases h) rfl Tryz.zeroValue64
theorem tr65 : TyR Tryz.prog tab 65 yt65 := TyR.one (b := 8) rfl (by kernel_rfl) rfl (by decide) rfl rfl rfl Tryz.zeroValue65
theorem tr66 : TyR Tryz.prog tab 66 yt66 := TyR.one (b := 8) rfl (by kernel_rfl) rfl (by decide) rfl rfl rfl Tryz.zeroValue66
theorem tr67 : TyR Tryz.prog tab 67 yt67 := TyR.agg (b := 32) (zero := ty67.zero) (by kernel_rfl) (by kernel_rfl) (by decide) rfl (fun fs h => by cases h; kernel_rfl) (fun n et h => by cases h) (fun h => by cases h) rfl Tryz.zeroValue67
theorem tr68 : TyR Tryz.prog tab 68 yt68 := TyR.agg (b := 32) (zero := ty68.zero) (by kernel_rfl) (by kernel_rfl) (by decide) rfl (fun fs h => by cases h; kernel_rfl) (fun n et h => by cases h) (fun h => by cases h) rfl Tryz.zeroValue68
theorem tr69 : TyR Tryz.prog tab 69 yt69 := TyR.one (b := 8) rfl (by kernel_rfl) rfl (by decide) rfl rfl rfl Tryz.zeroValue69
theorem tr70 : TyR Tryz.prog tab 70 yt70 := TyR.one (b := 8) rfl (by kernel_rfl) rfl (by decide) rfl rfl rfl Tryz.zeroValue70
theorem tr71 : TyR Tryz.prog tab 71 yt71 := TyR.one (b := 8) rfl (by kernel_rfl) rfl (by decide) rfl rfl rfl Tryz.zeroValue71
theorem tr72 : TyR Tryz.prog tab 72 yt72 := TyR.one (b := 24) rfl (by kernel_rfl) rfl (by decide) rfl rfl rfl Tryz.zeroValue72
theorem tr73 : TyR Tryz.prog tab 73 yt73 := TyR.one (b := 16) rfl (by kernel_rfl) rfl (by decide) rfl rfl rfl Tryz.zeroValue73
theorem tr74 : TyR Tryz.prog tab 74 yt74 := TyR.one (b := 16) rfl (by kernel_rfl) rfl (by decide) rfl rfl rfl Tryz.zeroValue74
theorem tr75 : TyR Tryz.prog tab 75 yt75 := TyR.agg (b := 48) (zero := ty75.zero) (by kernel_rfl) (by kernel_rfl) (by decide) rfl (fun fs h => by cases h; kernel_rfl) (fun n et h => by cases h) (fun h => by cases h) rfl Tryz.zeroValue75
theorem tr76 : TyR Tryz.prog tab 76 yt76 := TyR.agg (b := 48) (zero := ty76.zero) (by kernel_rfl) (by kernel_rfl) (by decide) rfl (fun fs h => by cases h; kernel_rfl) (fun n et h => by cases h) (fun h => by cases h) rfl Tryz.zeroValue76
theorem tr77 : TyR Tryz.prog tab 77 yt77 := TyR.one (b := 8) rfl (by kernel_rfl) rfl (by decide) rfl rfl rfl Tryz.zeroValue77
theorem tr78 : TyR Tryz.prog tab 78 yt78 := TyR.one (b := 24) rfl (by kernel_rfl) rfl (by decide) rfl rfl rfl Tryz.zeroValue78
theorem tr79 : TyR Tryz.prog tab 79 yt79 := TyR.agg (b := 32) (zero := ty79.zero) (by kernel_rfl) (by kernel_rfl) (by decide) rfl (fun fs h => by cases h; kernel_rfl) (fun n et h => by cases h) (fun h => by cases h) rfl Tryz.zeroValue79
theorem tr80 : TyR Tryz.prog tab 80 yt80 := TyR.agg (b := 32) (zero := ty80.zero) (by kernel_rfl) (by kernel_rfl) (by decide) rfl (fun fs h => by cases h; kernel_rfl) (fun n et h => by cases h) (fun h => by cases h) rfl Tryz.zeroValue80
theorem tr81 : TyR Tryz.prog tab 81 yt81 := TyR.one (b := 8) rfl (by kernel_rfl) rfl (by decide) rfl rfl rfl Tryz.zeroValue81
theorem tr82 : TyR Tryz.prog tab 82 yt82 := TyR.agg (b := 16) (zero := ty82.zero) (by kernel_rfl) (by kernel_rfl) (by decide) rfl (fun fs h => by cases h; kernel_rfl) (fun n et h => by cases h) (fun h => by cases h) rfl Tryz.zeroValue82
theorem tr83 : TyR Tryz.prog tab 83 yt83 := TyR.agg (b := 16) (zero := ty83.zero) (by kernel_rfl) (by kernel_rfl) (by decide) rfl (fun fs h => by cases h; kernel_rfl) (fun n et h => by cases h) (fun h => by cases h) rfl Tryz.zeroValue83
theorem tr84 : TyR Tryz.prog tab 84 yt84 := TyR.one (b := 24) rfl (by kernel_rfl) rfl (by decide) rfl rfl rfl Tryz.zeroValue84
theorem tr85 : TyR Tryz.prog tab 85 yt85 := TyR.one (b := 8) rfl (by kernel_rfl) rfl (by decide) rfl rfl rfl Tryz.zeroValue85
theorem tr86 : TyR Tryz.prog tab 86 yt86 := TyR.agg (b := 32) (zero := ty86.zero) (by kernel_rfl) (by kernel_rfl) (by decide) rfl (fun fs h => by cases h; kernel_rfl) (fun n et h => by cases h) (fun h => by cases h) rfl Tryz.zeroValue86
theorem tr87 : TyR Tryz.prog tab 87 yt87 := TyR.agg (b := 32) (zero := ty87.zero) (by kernel_rfl) (by kernel_rfl) (by decide) rfl (fun fs h => by cases h; kernel_rfl) (fun n et h => by cases h) (fun h => by cases h) rfl Tryz.zeroValue87
theorem tr89 : TyR Tryz.prog tab 89 yt89 := TyR.one (b := 8) rfl (by kernel_rfl) rfl (by decide) rfl rfl rfl Tryz.zeroValue89
theorem tr91 : TyR Tryz.prog tab 91 yt91 := TyR.one (b := 8) rfl (by kernel_rfl) rfl (by decide) rfl rfl rfl Tryz.zeroValue91
theorem tr93 : TyR Tryz.prog tab 93 yt93 := TyR.one (b := 8) rfl (by kernel_rfl) rfl (by decide) rfl rfl rfl Tryz.zeroValue93
theorem tr94 : TyR Tryz.prog tab 94 yt94 := TyR.one (b := 24) rfl (by kernel_rfl) rfl (by decide) rfl rfl rfl Tryz.zeroValue94
theorem tr95 : TyR Tryz.prog tab 95 yt95 := TyR.one (b := 8) rfl (by kernel_rfl) rfl (by decide) rfl rfl rfl Tryz.zeroValue95
theorem tr96 : TyR Tryz.prog tab 96 yt96 := TyR.agg (b := 40) (zero := ty96.zero) (by kernel_rfl) (by kernel_rfl) (by decide) rfl (fun fs h => by cases h; kernel_rfl) (fun n et h => by cases h) (fun h => by cases h) rfl Tryz.zeroValue96
theorem tr97 : TyR Tryz.prog tab 97 yt97 := TyR.agg (b := 40) (zero := ty97.zero) (by kernel_rfl) (by kernel_rfl) (by decide) rfl (fun fs h => by cases h; kernel_rfl) (fun n et h => by cases h) (fun h => by cases h) rfl Tryz.zeroValue97
theorem tr98 : TyR Tryz.prog tab 98 yt98 := TyR.one (b := 8) rfl (by kernel_rfl) rfl (by decide) rfl rfl rfl Tryz.zeroValue98
theorem tr99 : TyR Tryz.prog tab 99 yt99 := TyR.one (b := 8) rfl (by kernel_rfl) rfl (by decide) rfl rfl rfl Tryz.zeroValue99
theorem tr100 : TyR Tryz.prog tab 100 yt100 := TyR.one (b := 8) rfl (by kernel_rfl) rfl (by decide) rfl rfl rfl Tryz.zeroValue100
theorem tr101 : TyR Tryz.prog tab 101 yt101 := TyR.one (b := 8) rfl (by kernel_rfl) rfl (by decide) rfl rfl rfl Tryz.zeroValue101
theorem tr102 : TyR Tryz.prog tab 102 yt102 := TyR.one (b := 24) rfl (by kernel_rfl) rfl (by decide) rfl rfl rfl Tryz.zeroValue102
theorem tr103 : TyR Tryz.prog tab 103 yt103 := TyR.one (b := 24) rfl (by kernel_rfl) rfl (by decide) rfl rfl rfl Tryz.zeroValue103
theorem tr104 : TyR Tryz.prog tab 104 yt104 := TyR.one (b := 8) rfl (by kernel_rfl) rfl (by decide) rfl rfl rfl Tryz.zeroValue104
theorem tr105 : TyR Tryz.prog tab 105 yt105 := TyR.agg (b := 112) (zero := ty105.zero) (by kernel_rfl) (by kernel_rfl) (by decide) rfl (fun fs h => by cases h; kernel_rfl) (fun n et h => by cases h) (fun h => by cases h) rfl Tryz.zeroValue105
theorem tr106 : TyR Tryz.prog tab 106 yt106 := TyR.agg (b := 112) (zero := ty106.zero) (by kernel_rfl) (by kernel_rfl) (by decide) rfl (fun fs h => by cases h; kernel_rfl) (fun n et h => by cases h) (fun h => by cases h) rfl Tryz.zeroValue106
theorem tr107 : TyR Tryz.prog tab 107 yt107 := TyR.one (b := 8) rfl (by kernel_rfl) rfl (by decide) rfl rfl rfl Tryz.zeroValue107
theorem tr108 : TyR Tryz.prog tab 108 yt108 := TyR.one (b := 8) rfl (by kernel_rfl) rfl (by decide) rfl rfl rfl Tryz.zeroValue108
theorem tr109 : TyR Tryz.prog tab 109 yt109 := TyR.one (b := 8) rfl (by kernel_rfl) rfl (by decide) rfl rfl rfl Tryz.zeroValue109
theorem tr110 : TyR Tryz.prog tab 110 yt110 := TyR.one (b := 8) rfl (by kernel_rfl) rfl (by decide) rfl rfl rfl Tryz.zeroValue110
theorem tr111 : TyR Tryz.prog tab 111 yt111 := TyR.one (b := 8) rfl (by kernel_rfl) rfl (by decide) rfl rfl rfl Tryz.zeroValue111
theorem tr112 : TyR Tryz.prog tab 112 yt112 := TyR.one (b := 8) rfl (by kernel_rfl) rfl (by decide) rfl rfl rfl Tryz.zeroValue112
theorem tr113 : TyR Tryz.prog tab 113 yt113 := TyR.one (b := 8) rfl (by kernel_rfl) rfl (by decide) rfl rfl rfl Tryz.zeroValue113
theorem tr114 : TyR Tryz.prog tab 114 yt114 := TyR.one (b := 8) rfl (by kernel_rfl) rfl (by decide) rfl rfl rfl Tryz.zeroValue114
theorem tr115 : TyR Tryz.prog tab 115 yt115 := TyR.agg (b := 40) (zero := ty115.zero) (by kernel_rfl) (by kernel_rfl) (by decide) rfl (fun fs h => by cases h; kernel_rfl) (fun n et h => by cases h) (fun h => by cases h) rfl Tryz.zeroValue115
theorem tr116 : TyR Tryz.prog tab 116 yt116 := TyR.agg (b := 40) (zero := ty116.zero) (by kernel_rfl) (by kernel_rfl) (by decide) rfl (fun fs h => by cases h; kernel_rfl) (fun n et h => by cases h) (fun h => by cases h) rfl Tryz.zeroValue116
theorem tr117 : TyR Tryz.prog tab 117 yt117 := TyR.one (b := 8) rfl (by kernel_rfl) rfl (by decide) rfl rfl rfl Tryz.zeroValue117
theorem tr118 : TyR Tryz.prog tab 118 yt118 := TyR.agg (b := 40) (zero := ty118.zero) (by kernel_rfl) (by kernel_rfl) (by decide) rfl (fun fs h => by cases h; kernel_rfl) (fun n et h => by cases h) (fun h => by cases h) rfl Tryz.zeroValue118
theorem tr119 : TyR Tryz.prog tab 119 yt119 := TyR.agg (b := 40) (zero := ty119.zero) (by kernel_rfl) (by kernel_rfl) (by decide) rfl (fun fs h => by cases h; kernel_rfl) (fun n et h => by cases h) (fun h => by cases h) rfl Tryz.zeroValue119
theorem tr120 : TyR Tryz.prog tab 120 yt120 := TyR.one (b := 8) rfl (by kernel_rfl) rfl (by decide) rfl rfl rfl Tryz.zeroValue120
theorem tr121 : TyR Tryz.prog tab 121 yt121 := TyR.one (b := 8) rfl (by kernel_rfl) rfl (by decide) rfl rfl rfl Tryz.zeroValue121
theorem tr122 : TyR Tryz.prog tab 122 yt122 := TyR.one (b := 8) rfl (by kernel_rfl) rfl (by decide) rfl rfl rfl Tryz.zeroValue122
theorem tr123 : TyR Tryz.prog tab 123 yt123 := TyR.agg (b := 16) (zero := ty123.zero) (by kernel_rfl) (by kernel_rfl) (by decide) rfl (fun fs h => by cases h; kernel_rfl) (fun n et h => by cases h) (fun h => by cases h) rfl Tryz.zeroValue123
theorem tr124 : TyR Tryz.prog tab 124 yt124 := TyR.agg (b := 16) (zero := ty124.zero) (by kernel_rfl) (by kernel_rfl) (by decide) rfl (fun fs h => by cases h; kernel_rfl) (fun n et h => by cases h) (fun h => by cases h) rfl Tryz.zeroValue124
theorem tr126 : TyR Tryz.prog tab 126 yt126 := TyR.one (b := 8) rfl (by kernel_rfl) rfl (by decide) rfl rfl rfl Tryz.zeroValue126
theorem tr127 : TyR Tryz.prog tab 127 yt127 := TyR.agg (b := 2) (zero := ty127.zero) (by kernel_rfl) (by kernel_rfl) (by decide) rfl (fun fs h => by cases h; kernel_rfl) (fun n et h => by cases h) (fun h => by cases h) rfl Tryz.zeroValue127
theorem cmp128 : CmpOk Tryz.prog 128 yt128.zero := .structB (by kernel_rfl) (by kernel_rfl)
theorem tr128 : TyR Tryz.prog tab 128 yt128 := TyR.agg (b := 2) (zero := ty128.zero) (by kernel_rfl) (by kernel_rfl) (by decide) rfl (fun fs h => by cases h; kernel_rfl) (fun n et h => by cases h) (fun _ => cmp128) rfl Tryz.zeroValue128
theorem tr129 : TyR Tryz.prog tab 129 yt129 := TyR.one (b := 8) rfl (by kernel_rfl) rfl (by decide) rfl rfl rfl Tryz.zeroValue129
theorem tr130 : TyR Tryz.prog tab 130 yt130 := TyR.one (b := 24) rfl (by kernel_rfl) rfl (by decide) rfl rfl rfl Tryz.zeroValue130
theorem tr131 : TyR Tryz.prog tab 131 yt131 := TyR.one (b := 8) rfl (by kernel_rfl) rfl (by decide) rfl rfl rfl Tryz.zeroValue131
theorem tr132 : TyR Tryz.prog tab 132 yt132 := TyR.one (b := 8) rfl (by kernel_rfl) rfl (by decide) rfl rfl rfl Tryz.zeroValue132
theorem tr133 : TyR Tryz.prog tab 133 yt133 := TyR.one (b := 8) rfl (by kernel_rfl) rfl (by decide) rfl rfl rfl Tryz.zeroValue133
theorem tr134 : TyR Tryz.prog tab 134 yt134 := TyR.one (b := 8) rfl (by kernel_rfl) rfl (by decide) rfl rfl rfl Tryz.zeroValue134
theorem tr135 : TyR Tryz.prog tab 135 yt135 := TyR.one (b := 8) rfl (by kernel_rfl) rfl (by decide) rfl rfl rfl Tryz.zeroValue135
theorem tr136 : TyR Tryz.prog tab 136 yt136 := TyR.one (b := 8) rfl (by kernel_rfl) rfl (by decide) rfl rfl rfl Tryz.zeroValue136
theorem tr137 : TyR Tryz.prog tab 137 yt137 := TyR.one (b := 8) rfl (by kernel_rfl) rfl (by decide) rfl rfl rfl Tryz.zeroValue137
theorem tr139 : TyR Tryz.prog tab 139 yt139 := TyR.one (b := 8) rfl (by kernel_rfl) rfl (by decide) rfl rfl rfl Tryz.zeroValue139
theorem tr141 : TyR Tryz.prog tab 141 yt141 := TyR.one (b := 8) rfl (by kernel_rfl) rfl (by decide) rfl rfl rfl Tryz.zeroValue141
theorem tr143 : TyR Tryz.prog tab 143 yt143 := TyR.one (b := 8) rfl (by kernel_rfl) rfl (by decide) rfl rfl rfl Tryz.zeroValue143
theorem tr144 : TyR Tryz.prog tab 144 yt144 := TyR.one (b := 8) rfl (by kernel_rfl) rfl (by decide) rfl rfl rfl Tryz.zeroValue144
theorem tr145 : TyR Tryz.prog tab 145 yt145 := TyR.one (b := 24) rfl (by kernel_rfl) rfl (by decide) rfl rfl rfl Tryz.zeroValue145
theorem tr146 : TyR Tryz.prog tab 146 yt146 := TyR.agg (b := 32) (zero := ty146.zero) (by kernel_rfl) (by kernel_rfl) (by decide) rfl (fun fs h => by cases h; kernel_rfl) (fun n et h => by cases h) (fun h => by cases h) rfl Tryz.zeroValue146
theorem tr147 : TyR Tryz.prog tab 147 yt147 := TyR.agg (b := 32) (zero := ty147.zero) (by kernel_rfl) (by kernel_rfl) (by decide) rfl (fun fs h => by cases h; kernel_rfl) (fun n et h => by cases h) (fun h => by cases h) rfl Tryz.zeroValue147
theorem tr148 : TyR Tryz.prog tab 148 yt148 := TyR.one (b := 8) rfl (by kernel_rfl) rfl (by decide) rfl rfl rfl Tryz.zeroValue148
theorem tr149 : TyR Tryz.prog tab 149 yt149 := TyR.one (b := 8) rfl (by kernel_rfl) rfl (by decide) rfl rfl rfl Tryz.zeroValue149
theorem tr150 : TyR Tryz.prog tab 150 yt150 := TyR.agg (b := 24) (zero := ty150.zero) (by kernel_rfl) (by kernel_rfl) (by decide) rfl (fun fs h => by cases h; kernel_rfl) (fun n et h => by cases h) (fun h => by cases h) rfl Tryz.zeroValue150
theorem tr151 : TyR Tryz.prog tab 151 yt151 := TyR.agg (b := 24) (zero := ty151.zero) (by kernel_rfl) (by kernel_rfl) (by decide) rfl (fun fs h => by cases h; kernel_rfl) (fun n et h => by cases h) (fun h => by cases h) rfl Tryz.zeroValue151
theorem tr152 : TyR Tryz.prog tab 152 yt152 := TyR.one (b := 24) rfl (by kernel_rfl) rfl (by decide) rfl rfl rfl Tryz.zeroValue152
theorem tr153 : TyR Tryz.prog tab 153 yt153 := TyR.one (b := 8) rfl (by kernel_rfl) rfl (by decide) rfl rfl rfl Tryz.zeroValue153
theorem tr154 : TyR Tryz.prog tab 154 yt154 := TyR.agg (b := 24) (zero := ty154.zero) (by kernel_rfl) (by kernel_rfl) (by decide) rfl (fun fs h => by cases h; kernel_rfl) (fun n et h => by cases h) (fun h => by cases h) rfl Tryz.zeroValue154
theorem tr155 : TyR Tryz.prog tab 155 yt155 := TyR.agg (b := 24) (zero := ty155.zero) (by kernel_rfl) (by kernel_rfl) (by decide) rfl (fun fs h => by cases h; kernel_rfl) (fun n et h => by cases h) (fun h => by cases h) rfl Tryz.zeroValue155
theorem tr156 : TyR Tryz.prog tab 156 yt156 := TyR.one (b := 8) rfl (by kernel_rfl) rfl (by decide) rfl rfl rfl Tryz.zeroValue156
theorem tr157 : TyR Tryz.prog tab 157 yt157 := TyR.one (b := 24) rfl (by kernel_rfl) rfl (by decide) rfl rfl rfl Tryz.zeroValue157
theorem tr158 : TyR Tryz.prog tab 158 yt158 := TyR.agg (b := 48) (zero := ty158.zero) (by kernel_rfl) (by kernel_rfl) (by decide) rfl (fun fs h => by cases h; kernel_rfl) (fun n et h => by cases h) (fun h => by cases h) rfl Tryz.zeroValue158
theorem tr159 : TyR Tryz.prog tab 159 yt159 := TyR.agg (b := 48) (zero := ty159.zero) (by kernel_rfl) (by kernel_rfl) (by decide) rfl (fun fs h => by cases h; kernel_rfl) (fun n et h => by cases h) (fun h => by cases h) rfl Tryz.zeroValue159
theorem tr160 : TyR Tryz.prog tab 160 yt160 := TyR.agg (b := 16) (zero := ty160.zero) (by kernel_rfl) (by kernel_rfl) (by decide) rfl (fun fs h => by cases h; kernel_rfl) (fun n et h => by cases h) (fun h => by cases h) rfl Tryz.zeroValue160
theorem tr161 : TyR Tryz.prog tab 161 yt161 := TyR.agg (b := 16) (zero := ty161.zero) (by kernel_rfl) (by kernel_rfl) (by decide) rfl (fun fs h => by cases h; kernel_rfl) (fun n et h => by cases h) (fun h => by cases h) rfl Tryz.zeroValue161
theorem tr162 : TyR Tryz.prog tab 162 yt162 := TyR.one (b := 8) rfl (by kernel_rfl) rfl (by decide) rfl rfl rfl Tryz.zeroValue162
theorem tr163 : TyR Tryz.prog tab 163 yt163 := TyR.agg (b := 24) (zero := ty163.zero) (by kernel_rfl) (by kernel_rfl) (by decide) rfl (fun fs h => by cases h; kernel_rfl) (fun n et h => by cases h) (fun h => by cases h) rfl Tryz.zeroValue163
theorem tr164 : TyR Tryz.prog tab 164 yt164 := TyR.agg (b := 24) (zero := ty164.zero) (by kernel_rfl) (by kernel_rfl) (by decide) rfl (fun fs h => by cases h; kernel_rfl) (fun n et h => by cases h) (fun h => by cases h) rfl Tryz.zeroValue164
theorem tr165 : TyR Tryz.prog tab 165 yt165 := TyR.one (b := 8) rfl (by kernel_rfl) rfl (by decide) rfl rfl rfl Tryz.zeroValue165
theorem tr166 : TyR Tryz.prog tab 166 yt166 := TyR.one (b := 24) rfl (by kernel_rfl) rfl (by decide) rfl rfl rfl Tryz.zeroValue166
theorem tr167 : TyR Tryz.prog tab 167 yt167 := TyR.agg (b := 48) (zero := ty167.zero) (by kernel_rfl) (by kernel_rfl) (by decide) rfl (fun fs h => by cases h; kernel_rfl) (fun n et h => by cases h) (fun h => by cases h) rfl Tryz.zeroValue167
theorem tr168 : TyR Tryz.prog tab 168 yt168 := TyR.agg (b := 48) (zero := ty168.zero) (by kernel_rfl) (by kernel_rfl) (by decide) rfl (fun fs h => by cases h; kernel_rfl) (fun n et h => by cases h) (fun h => by cases h) rfl Tryz.zeroValue168
theorem tr169 : TyR Tryz.prog tab 169 yt169 := TyR.one (b := 8) rfl (by kernel_rfl) rfl (by decide) rfl rfl rfl Tryz.zeroValue169
theorem tr170 : TyR Tryz.prog tab 170 yt170 := TyR.one (b := 8) rfl (by kernel_rfl) rfl (by decide) rfl rfl rfl Tryz.zeroValue170
theorem tr171 : TyR Tryz.prog tab 171 yt171 := TyR.one (b := 8) rfl (by kernel_rfl) rfl (by decide) rfl rfl rfl Tryz.zeroValue171
theorem tr173 : TyR Tryz.prog tab 173 yt173 := TyR.one (b := 8) rfl (by kernel_rfl) rfl (by decide) rfl rfl rfl Tryz.zeroValue173
theorem tr174 : TyR Tryz.prog tab 174 yt174 := TyR.one (b := 8) rfl (by kernel_rfl) rfl (by decide) rfl rfl rfl Tryz.zeroValue174
theorem tr175 : TyR Tryz.prog tab 175 yt175 := TyR.agg (b := 16) (zero := ty175.zero) (by kernel_rfl) (by kernel_rfl) (by decide) rfl (fun fs h => by cases h; kernel_rfl) (fun n et h => by cases h) (fun h => by cases h) rfl Tryz.zeroValue175
theorem tr176 : TyR Tryz.prog tab 176 yt176 := TyR.agg (b := 16) (zero := ty176.zero) (by kernel_rfl) (by kernel_rfl) (by decide) rfl (fun fs h => by cases h; kernel_rfl) (fun n et h => by cases h) (fun h => by cases h) rfl Tryz.zeroValue176
theorem tr177 : TyR Tryz.prog tab 177 yt177 := TyR.one (b := 8) rfl (by kernel_rfl) rfl (by decide) rfl rfl rfl Tryz.zeroValue177
theorem tr178 : TyR Tryz.prog tab 178 yt178 := TyR.one (b := 8) rfl (by kernel_rfl) rfl (by decide) rfl rfl rfl Tryz.zeroValue178
theorem tr180 : TyR Tryz.prog tab 180 yt180 := TyR.one (b := 8) rfl (by kernel_rfl) rfl (by decide) rfl rfl rfl Tryz.zeroValue180
theorem tr182 : TyR Tryz.prog tab 182 yt182 := TyR.one (b := 8) rfl (by kernel_rfl) rfl (by decide) rfl rfl rfl Tryz.zeroValue182
theorem tr184 : TyR Tryz.prog tab 184 yt184 := TyR.one (b := 8) rfl (by kernel_rfl) rfl (by decide) rfl rfl rfl Tryz.zeroValue184
theorem tr186 : TyR Tryz.prog tab 186 yt186 := TyR.one (b := 8) rfl (by kernel_rfl) rfl (by decide) rfl rfl rfl Tryz.zeroValue186
theorem tr187 : TyR Tryz.prog tab 187 yt187 := TyR.one (b := 8) rfl (by kernel_rfl) rfl (by decide) rfl rfl rfl Tryz.zeroValue187
theorem tr188 : TyR Tryz.prog tab 188 yt188 := TyR.one (b := 8) rfl (by kernel_rfl) rfl (by decide) rfl rfl rfl Tryz.zeroValue188
theorem tr189 : TyR Tryz.prog tab 189 yt189 := TyR.agg (b := 128) (zero := ty189.zero) (by kernel_rfl) (by kernel_rfl) (by decide) rfl (fun fs h => by cases h) (fun n et h => by cases h; exact ⟨ty188, by kernel_rfl⟩) (fun h => by cases h) rfl Tryz.zeroValue189
theorem tr190 : TyR Tryz.prog tab 190 yt190 := TyR.agg (b := 136) (zero := ty190.zero) (by kernel_rfl) (by kernel_rfl) (by decide) rfl (fun fs h => by cases h; kernel_rfl) (fun n et h => by cases h) (fun h => by cases h) rfl Tryz.zeroValue190
theorem tr191 : TyR Tryz.prog tab 191 yt191 := TyR.agg (b := 136) (zero := ty191.zero) (by kernel_rfl) (by kernel_rfl) (by decide) rfl (fun fs h => by cases h; kernel_rfl) (fun n et h => by cases h) (fun h => by cases h) rfl Tryz.zeroValue191
theorem tr192 : TyR Tryz.prog tab 192 yt192 := TyR.one (b := 8) rfl (by kernel_rfl) rfl (by decide) rfl rfl rfl Tryz.zeroValue192
theorem tr193 : TyR Tryz.prog tab 193 yt193 := TyR.agg (b := 64) (zero := ty193.zero) (by kernel_rfl) (by kernel_rfl) (by decide) rfl (fun fs h => by cases h; kernel_rfl) (fun n et h => by cases h) (fun h => by cases h) rfl Tryz.zeroValue193
theorem tr194 : TyR Tryz.prog tab 194 yt194 := TyR.agg (b := 64) (zero := ty194.zero) (by kernel_rfl) (by kernel_rfl) (by decide) rfl (fun fs h => by cases h; kernel_rfl) (fun n et h => by cases h) (fun h => by cases h) rfl Tryz.zeroValue194
theorem tr195 : TyR Tryz.prog tab 195 yt195 := TyR.one (b := 8) rfl (by kernel_rfl) rfl (by decide) rfl rfl rfl Tryz.zeroValue195
theorem tr196 : TyR Tryz.prog tab 196 yt196 := TyR.one (b := 8) rfl (by kernel_rfl) rfl (by decide) rfl rfl rfl Tryz.zeroValue196
theorem tr197 : TyR Tryz.prog tab 197 yt197 := TyR.one (b := 8) rfl (by kernel_rfl) rfl (by decide) rfl rfl rfl Tryz.zeroValue197
theorem tr199 : TyR Tryz.prog tab 199 yt199 := TyR.one (b := 8) rfl (by kernel_rfl) rfl (by decide) rfl rfl rfl Tryz.zeroValue199
theorem tr200 : TyR Tryz.prog tab 200 yt200 := TyR.one (b := 24) rfl (by kernel_rfl) rfl (by decide) rfl rfl rfl Tryz.zeroValue200
theorem tr201 : TyR Tryz.prog tab 201 yt201 := TyR.one (b := 8) rfl (by kernel_rfl) rfl (by decide) rfl rfl rfl Tryz.zeroValue201
theorem tr202 : TyR Tryz.prog tab 202 yt202 := TyR.agg (b := 8) (zero := ty202.zero) (by kernel_rfl) (by kernel_rfl) (by decide) rfl (fun fs h => by cases h; kernel_rfl) (fun n et h => by cases h) (fun h => by cases h) rfl Tryz.zeroValue202
theorem tr203 : TyR Tryz.prog tab 203 yt203 := TyR.agg (b := 8) (zero := ty203.zero) (by kernel_rfl) (by kernel_rfl) (by decide) rfl (fun fs h => by cases h; kernel_rfl) (fun n et h => by cases h) (fun h => by cases h) rfl Tryz.zeroValue203
theorem tr204 : TyR Tryz.prog tab 204 yt204 := TyR.agg (b := 8) (zero := ty204.zero) (by kernel_rfl) (by kernel_rfl) (by decide) rfl (fun fs h => by cases h; kernel_rfl) (fun n et h => by cases h) (fun h => by cases h) rfl Tryz.zeroValue204
theorem tr205 : TyR Tryz.prog tab 205 yt205 := TyR.agg (b := 8) (zero := ty205.zero) (by kernel_rfl) (by kernel_rfl) (by decide) rfl (fun fs h => by cases h; kernel_rfl) (fun n et h => by cases h) (fun h => by cases h) rfl Tryz.zeroValue205
theorem tr206 : TyR Tryz.prog tab 206 yt206 := TyR.agg (b := 8) (zero := ty206.zero) (by kernel_rfl) (by kernel_rfl) (by decide) rfl (fun fs h => by cases h; kernel_rfl) (fun n et h => by cases h) (fun h => by cases h) rfl Tryz.zeroValue206
theorem tr207 : TyR Tryz.prog tab 207 yt207 := TyR.agg (b := 8) (zero := ty207.zero) (by kernel_rfl) (by kernel_rfl) (by decide) rfl (fun fs h => by cases h; kernel_rfl) (fun n et h => by cases h) (fun h => by cases h) rfl Tryz.zeroValue207
theorem tr208 : TyR Tryz.prog tab 208 yt208 := TyR.agg (b := 0) (zero := ty208.zero) (by kernel_rfl) (by kernel_rfl) (by decide) rfl (fun fs h => by cases h; kernel_rfl) (fun n et h => by cases h) (fun h => by cases h) rfl Tryz.zeroValue208
theorem tr209 : TyR Tryz.prog tab 209 yt209 := TyR.agg (b := 0) (zero := ty209.zero) (by kernel_rfl) (by kernel_rfl) (by decide) rfl (fun fs h => by cases h; kernel_rfl) (fun n et h => by cases h) (fun h => by cases h) rfl Tryz.zeroValue209
theorem tr210 : TyR Tryz.prog tab 210 yt210 := TyR.one (b := 8) rfl (by kernel_rfl) rfl (by decide) rfl rfl rfl Tryz.zeroValue210
theorem tr211 : TyR Tryz.prog tab 211 yt211 := TyR.one (b := 8) rfl (by kernel_rfl) rfl (by decide) rfl rfl rfl Tryz.zeroValue211
theorem tr212 : TyR Tryz.prog tab 212 yt212 := TyR.agg (b := 16) (zero := ty212.zero) (by kernel_rfl) (by kernel_rfl) (by decide) rfl (fun fs h => by cases h; kernel_rfl) (fun n et h => by cases h) (fun h => by cases h) rfl Tryz.zeroValue212
theorem tr213 : TyR Tryz.prog tab 213 yt213 := TyR.agg (b := 16) (zero := ty213.zero) (by kernel_rfl) (by kernel_rfl) (by decide) rfl (fun fs h => by cases h; kernel_rfl) (fun n et h => by cases h) (fun h => by cases h) rfl Tryz.zeroValue213
theorem tr215 : TyR Tryz.prog tab 215 yt215 := TyR.one (b := 8) rfl (by kernel_rfl) rfl (by decide) rfl rfl rfl Tryz.zeroValue215
theorem tr216 : TyR Tryz.prog tab 216 yt216 := TyR.one (b := 8) rfl (by kernel_rfl) rfl (by decide) rfl rfl rfl Tryz.zeroValue216
theorem tr217 : TyR Tryz.prog tab 217 yt217 := TyR.agg (b := 0) (zero := ty217.zero) (by kernel_rfl) (by kernel_rfl) (by decide) rfl (fun fs h => by cases h; kernel_rfl) (fun n et h => by cases h) (fun h => by cases h) rfl Tryz.zeroValue217
theorem tr218 : TyR Tryz.prog tab 218 yt218 := TyR.agg (b := 16) (zero := ty218.zero) (by kernel_rfl) (by kernel_rfl) (by decide) rfl (fun fs h => by cases h; kernel_rfl) (fun n et h => by cases h) (fun h => by cases h) rfl Tryz.zeroValue218
theorem tr219 : TyR Tryz.prog tab 219 yt219 := TyR.one (b := 8) rfl (by kernel_rfl) rfl (by decide) rfl rfl rfl Tryz.zeroValue219
theorem tr220 : TyR Tryz.prog tab 220 yt220 := TyR.agg (b := 16) (zero := ty220.zero) (by kernel_rfl) (by kernel_rfl) (by decide) rfl (fun fs h => by cases h; kernel_rfl) (fun n et h => by cases h) (fun h => by cases h) rfl Tryz.zeroValue220
theorem tr221 : TyR Tryz.prog tab 221 yt221 := TyR.one (b := 8) rfl (by kernel_rfl) rfl (by decide) rfl rfl rfl Tryz.zeroValue221
theorem tr222 : TyR Tryz.prog tab 222 yt222 := TyR.one (b := 8) rfl (by kernel_rfl) rfl (by decide) rfl rfl rfl Tryz.zeroValue222
theorem tr223 : TyR Tryz.prog tab 223 yt223 := TyR.agg (b := 16) (zero := ty223.zero) (by kernel_rfl) (by kernel_rfl) (by decide) rfl (fun fs h => by cases h; kernel_rfl) (fun n et h => by cases h) (fun h => by cases h) rfl Tryz.zeroValue223
theorem tr224 : TyR Tryz.prog tab 224 yt224 := TyR.agg (b := 16) (zero := ty224.zero) (by kernel_rfl) (by kernel_rfl) (by decide) rfl (fun fs h => by cases h; kernel_rfl) (fun n et h => by cases h) (fun h => by cases h) rfl Tryz.zeroValue224
theorem tr225 : TyR Tryz.prog tab 225 yt225 := TyR.one (b := 8) rfl (by kernel_rfl) rfl (by decide) rfl rfl rfl Tryz.zeroValue225
theorem tr226 : TyR Tryz.prog tab 226 yt226 := TyR.one (b := 8) rfl (by kernel_rfl) rfl (by decide) rfl rfl rfl Tryz.zeroValue226
theorem tr227 : TyR Tryz.prog tab 227 yt227 := TyR.agg (b := 0) (zero := ty227.zero) (by kernel_rfl) (by kernel_rfl) (by decide) rfl (fun fs h => by cases h; kernel_rfl) (fun n et h => by cases h) (fun h => by cases h) rfl Tryz.zeroValue227
theorem tr228 : TyR Tryz.prog tab 228 yt228 := TyR.one (b := 8) rfl (by kernel_rfl) rfl (by decide) rfl rfl rfl Tryz.zeroValue228
theorem tr229 : TyR Tryz.prog tab 229 yt229 := TyR.one (b := 8) rfl (by kernel_rfl) rfl (by decide) rfl rfl rfl Tryz.zeroValue229
theorem tr230 : TyR Tryz.prog tab 230 yt230 := TyR.agg (b := 16) (zero := ty230.zero) (by kernel_rfl) (by kernel_rfl) (by decide) rfl (fun fs h => by cases h; kernel_rfl) (fun n et h => by cases h) (fun h => by cases h) rfl Tryz.zeroValue230
theorem tr231 : TyR Tryz.prog tab 231 yt231 := TyR.agg (b := 16) (zero := ty231.zero) (by kernel_rfl) (by kernel_rfl) (by decide) rfl (fun fs h => by cases h; kernel_rfl) (fun n et h => by cases h) (fun h => by cases h) rfl Tryz.zeroValue231
theorem tr232 : TyR Tryz.prog tab 232 yt232 := TyR.one (b := 8) rfl (by kernel_rfl) rfl (by decide) rfl rfl rfl Tryz.zeroValue232
theorem tr233 : TyR Tryz.prog tab 233 yt233 := TyR.one (b := 8) rfl (by kernel_rfl) rfl (by decide) rfl rfl rfl Tryz.zeroValue233
theorem tr234 : TyR Tryz.prog tab 234 yt234 := TyR.one (b := 8) rfl (by kernel_rfl) rfl (by decide) rfl rfl rfl Tryz.zeroValue234
theorem tr235 : TyR Tryz.prog tab 235 yt235 := TyR.one (b := 8) rfl (by kernel_rfl) rfl (by decide) rfl rfl rfl Tryz.zeroValue235
theorem tr236 : TyR Tryz.prog tab 236 yt236 := TyR.agg (b := 64) (zero := ty236.zero) (by kernel_rfl) (by kernel_rfl) (by decide) rfl (fun fs h => by cases h) (fun n et h => by cases h; exact ⟨ty234, by kernel_rfl⟩) (fun h => by cases h) rfl Tryz.zeroValue236
theorem cmp237 : CmpOk Tryz.prog 237 yt237.zero := .arrayB (e := 234) (by kernel_rfl) (by kernel_rfl) rfl (by kernel_rfl)
theorem tr237 : TyR Tryz.prog tab 237 yt237 := TyR.agg (b := 64) (zero := ty237.zero) (by kernel_rfl) (by kernel_rfl) (by decide) rfl (fun fs h => by cases h) (fun n et h => by cases h; exact ⟨ty234, by kernel_rfl⟩) (fun _ => cmp237) rfl Tryz.zeroValue237
theorem tr238 : TyR Tryz.prog tab 238 yt238 := TyR.one (b := 8) rfl (by kernel_rfl) rfl (by decide) rfl rfl rfl Tryz.zeroValue238
theorem tr239 : TyR Tryz.prog tab 239 yt239 := TyR.one (b := 8) rfl (by kernel_rfl) rfl (by decide) rfl rfl rfl Tryz.zeroValue239
theorem tr240 : TyR Tryz.prog tab 240 yt240 := TyR.agg (b := 64) (zero := ty240.zero) (by kernel_rfl) (by kernel_rfl) (by decide) rfl (fun fs h => by cases h) (fun n et h => by cases h; exact ⟨ty3, by kernel_rfl⟩) (fun h => by cases h) rfl Tryz.zeroValue240
theorem cmp241 : CmpOk Tryz.prog 241 yt241.zero := .arrayB (e := 3) (by kernel_rfl) (by kernel_rfl) rfl (by kernel_rfl)
theorem tr241 : TyR Tryz.prog tab 241 yt241 := TyR.agg (b := 64) (zero := ty241.zero) (by kernel_rfl) (by kernel_rfl) (by decide) rfl (fun fs h => by cases h) (fun n et h => by cases h; exact ⟨ty3, by kernel_rfl⟩) (fun _ => cmp241) rfl Tryz.zeroValue241
theorem tr242 : TyR Tryz.prog tab 242 yt242 := TyR.one (b := 8) rfl (by kernel_rfl) rfl (by decide) rfl rfl rfl Tryz.zeroValue242
theorem tr243 : TyR Tryz.prog tab 243 yt243 := TyR.one (b := 8) rfl (by kernel_rfl) rfl (by decide) rfl rfl rfl Tryz.zeroValue243
theorem tr244 : TyR Tryz.prog tab 244 yt244 := TyR.one (b := 8) rfl (by kernel_rfl) rfl (by decide) rfl rfl rfl Tryz.zeroValue244
theorem tr245 : TyR Tryz.prog tab 245 yt245 := TyR.agg (b := 8) (zero := ty245.zero) (by kernel_rfl) (by kernel_rfl) (by decide) rfl (fun fs h => by cases h; kernel_rfl) (fun n et h => by cases h) (fun h => by cases h) rfl Tryz.zeroValue245
theorem tr246 : TyR Tryz.prog tab 246 yt246 := TyR.agg (b := 8) (zero := ty246.zero) (by kernel_rfl) (by kernel_rfl) (by decide) rfl (fun fs h => by cases h; kernel_rfl) (fun n et h => by cases h) (fun h => by cases h) rfl Tryz.zeroValue246
theorem tr247 : TyR Tryz.prog tab 247 yt247 := TyR.one (b := 8) rfl (by kernel_rfl) rfl (by decide) rfl rfl rfl Tryz.zeroValue247
theorem tr248 : TyR Tryz.prog tab 248 yt248 := TyR.one (b := 8) rfl (by kernel_rfl) rfl (by decide) rfl rfl rfl Tryz.zeroValue248
theorem tr249 : TyR Tryz.prog tab 249 yt249 := TyR.one (b := 8) rfl (by kernel_rfl) rfl (by decide) rfl rfl rfl Tryz.zeroValue249
theorem tr250 : TyR Tryz.prog tab 250 yt250 := TyR.one (b := 8) rfl (by kernel_rfl) rfl (by decide) rfl rfl rfl Tryz.zeroValue250
theorem tr251 : TyR Tryz.prog tab 251 yt251 := TyR.one (b := 8) rfl (by kernel_rfl) rfl (by decide) rfl rfl rfl Tryz.zeroValue251
theorem tr252 : TyR Tryz.prog tab 252 yt252 := TyR.one (b := 8) rfl (by kernel_rfl) rfl (by decide) rfl rfl rfl Tryz.zeroValue252
theorem tr253 : TyR Tryz.prog tab 253 yt253 := TyR.one (b := 8) rfl (by kernel_rfl) rfl (by decide) rfl rfl rfl Tryz.zeroValue253
theorem tr254 : TyR Tryz.prog tab 254 yt254 := TyR.one (b := 8) rfl (by kernel_rfl) rfl (by decide) rfl rfl rfl Tryz.zeroValue254
theorem tr255 : TyR Tryz.prog tab 255 yt255 := TyR.one (b := 8) rfl (by kernel_rfl) rfl (by decide) rfl rfl rfl Tryz.zeroValue255
theorem tr256 : TyR Tryz.prog tab 256 yt256 := TyR.one (b := 8) rfl (by kernel_rfl) rfl (by decide) rfl rfl rfl Tryz.zeroValue256
theorem tr257 : TyR Tryz.prog tab 257 yt257 := TyR.one (b := 8) rfl (by kernel_rfl) rfl (by decide) rfl rfl rfl Tryz.zeroValue257
theorem tr258 : TyR Tryz.prog tab 258 yt258 := TyR.one (b := 8) rfl (by kernel_rfl) rfl (by decide) rfl rfl rfl Tryz.zeroValue258
theorem tr260 : TyR Tryz.prog tab 260 yt260 := TyR.one (b := 8) rfl (by kernel_rfl) rfl (by decide) rfl rfl rfl Tryz.zeroValue260
theorem tr261 : TyR Tryz.prog tab 261 yt261 := TyR.one (b := 8) rfl (by kernel_rfl) rfl (by decide) rfl rfl rfl Tryz.zeroValue261
theorem tr262 : TyR Tryz.prog tab 262 yt262 := TyR.one (b := 8) rfl (by kernel_rfl) rfl (by decide) rfl rfl rfl Tryz.zeroValue262
theorem tr263 : TyR Tryz.prog tab 263 yt263 := TyR.one (b := 8) rfl (by kernel_rfl) rfl (by decide) rfl rfl rfl Tryz.zeroValue263
theorem tr265 : TyR Tryz.prog tab 265 yt265 := TyR.one (b := 8) rfl (by kernel_rfl) rfl (by decide) rfl rfl rfl Tryz.zeroValue265
theorem tr266 : TyR Tryz.prog tab 266 yt266 := TyR.one (b := 8) rfl (by kernel_rfl) rfl (by decide) rfl rfl rfl Tryz.zeroValue266
theorem tr267 : TyR Tryz.prog tab 267 yt267 := TyR.one (b := 8) rfl (by kernel_rfl) rfl (by decide) rfl rfl rfl Tryz.zeroValue267
theorem tr269 : TyR Tryz.prog tab 269 yt269 := TyR.one (b := 8) rfl (by kernel_rfl) rfl (by decide) rfl rfl rfl Tryz.zeroValue269
theorem tr271 : TyR Tryz.prog tab 271 yt271 := TyR.one (b := 8) rfl (by kernel_rfl) rfl (by decide) rfl rfl rfl Tryz.zeroValue271
theorem tr272 : TyR Tryz.prog tab 272 yt272 := TyR.one (b := 8) rfl (by kernel_rfl) rfl (by decide) rfl rfl rfl Tryz.zeroValue272
theorem tr273 : TyR Tryz.prog tab 273 yt273 := TyR.one (b := 8) rfl (by kernel_rfl) rfl (by decide) rfl rfl rfl Tryz.zeroValue273
theorem tr274 : TyR Tryz.prog tab 274 yt274 := TyR.one (b := 8) rfl (by kernel_rfl) rfl (by decide) rfl rfl rfl Tryz.zeroValue274
theorem tr275 : TyR Tryz.prog tab 275 yt275 := TyR.one (b := 8) rfl (by kernel_rfl) rfl (by decide) rfl rfl rfl Tryz.zeroValue275
theorem tr276 : TyR Tryz.prog tab 276 yt276 := TyR.one (b := 8) rfl (by kernel_rfl) rfl (by decide) rfl rfl rfl Tryz.zeroValue276
theorem tr277 : TyR Tryz.prog tab 277 yt277 := TyR.one (b := 8) rfl (by kernel_rfl) rfl (by decide) rfl rfl rfl Tryz.zeroValue277
theorem tr278 : TyR Tryz.prog tab 278 yt278 := TyR.one (b := 8) rfl (by kernel_rfl) rfl (by decide) rfl rfl rfl Tryz.zeroValue278
theorem tr279 : TyR Tryz.prog tab 279 yt279 := TyR.one (b := 8) rfl (by kernel_rfl) rfl (by decide) rfl rfl rfl Tryz.zeroValue279
theorem tr280 : TyR Tryz.prog tab 280 yt280 := TyR.one (b := 8) rfl (by kernel_rfl) rfl (by decide) rfl rfl rfl Tryz.zeroValue280
theorem tr282 : TyR Tryz.prog tab 282 yt282 := TyR.one (b := 8) rfl (by kernel_rfl) rfl (by decide) rfl rfl rfl Tryz.zeroValue282
theorem tr283 : TyR Tryz.prog tab 283 yt283 := TyR.one (b := 8) rfl (by kernel_rfl) rfl (by decide) rfl rfl rfl Tryz.zeroValue283
theorem tr285 : TyR Tryz.prog tab 285 yt285 := TyR.one (b := 8) rfl (by kernel_rfl) rfl (by decide) rfl rfl rfl Tryz.zeroValue285
theorem tr286 : TyR Tryz.prog tab 286 yt286 := TyR.one (b := 8) rfl (by kernel_rfl) rfl (by decide) rfl rfl rfl Tryz.zeroValue286
theorem tr287 : TyR Tryz.prog tab 287 yt287 := TyR.one (b := 8) rfl (by kernel_rfl) rfl (by decide) rfl rfl rfl Tryz.zeroValue287
theorem tr288 : TyR Tryz.prog tab 288 yt288 := TyR.one (b := 8) rfl (by kernel_rfl) rfl (by decide) rfl rfl rfl Tryz.zeroValue288
theorem tr289 : TyR Tryz.prog tab 289 yt289 := TyR.one (b := 8) rfl (by kernel_rfl) rfl (by decide) rfl rfl rfl Tryz.zeroValue289
theorem tr291 : TyR Tryz.prog tab 291 yt291 := TyR.one (b := 8) rfl (by kernel_rfl) rfl (by decide) rfl rfl rfl Tryz.zeroValue291
theorem tr292 : TyR Tryz.prog tab 292 yt292 := TyR.one (b := 8) rfl (by kernel_rfl) rfl (by decide) rfl rfl rfl Tryz.zeroValue292
theorem tr293 : TyR Tryz.prog tab 293 yt293 := TyR.one (b := 8) rfl (by kernel_rfl) rfl (by decide) rfl rfl rfl Tryz.zeroValue293
theorem tr294 : TyR Tryz.prog tab 294 yt294 := TyR.one (b := 8) rfl (by kernel_rfl) rfl (by decide) rfl rfl rfl Tryz.zeroValue294
theorem tr295 : TyR Tryz.prog tab 295 yt295 := TyR.one (b := 8) rfl (by kernel_rfl) rfl (by decide) rfl rfl rfl Tryz.zeroValue295
theorem tr296 : TyR Tryz.prog tab 296 yt296 := TyR.one (b := 8) rfl (by kernel_rfl) rfl (by decide) rfl rfl rfl Tryz.zeroValue296
theorem tr297 : TyR Tryz.prog tab 297 yt297 := TyR.one (b := 8) rfl (by kernel_rfl) rfl (by decide) rfl rfl rfl Tryz.zeroValue297
theorem tr298 : TyR Tryz.prog tab 298 yt298 := TyR.one (b := 8) rfl (by kernel_rfl) rfl (by decide) rfl rfl rfl Tryz.zeroValue298
theorem tr299 : TyR Tryz.prog tab 299 yt299 := TyR.one (b := 8) rfl (by kernel_rfl) rfl (by decide) rfl rfl rfl Tryz.zeroValue299
theorem tr300 : TyR Tryz.prog tab 300 yt300 := TyR.one (b := 8) rfl (by kernel_rfl) rfl (by decide) rfl rfl rfl Tryz.zeroValue300
theorem tr302 : TyR Tryz.prog tab 302 yt302 := TyR.one (b := 8) rfl (by kernel_rfl) rfl (by decide) rfl rfl rfl Tryz.zeroValue302
theorem tr303 : TyR Tryz.prog tab 303 yt303 := TyR.one (b := 8) rfl (by kernel_rfl) rfl (by decide) rfl rfl rfl Tryz.zeroValue303
theorem tr304 : TyR Tryz.prog tab 304 yt304 := TyR.one (b := 8) rfl (by kernel_rfl) rfl (by decide) rfl rfl rfl Tryz.zeroValue304
theorem tr305 : TyR Tryz.prog tab 305 yt305 := TyR.one (b := 8) rfl (by kernel_rfl) rfl (by decide) rfl rfl rfl Tryz.zeroValue305
theorem tr306 : TyR Tryz.prog tab 306 yt306 := TyR.one (b := 8) rfl (by kernel_rfl) rfl (by decide) rfl rfl rfl Tryz.zeroValue306
theorem tr307 : TyR Tryz.prog tab 307 yt307 := TyR.one (b := 4) rfl (by kernel_rfl) rfl (by decide) rfl rfl rfl Tryz.zeroValue307
theorem tr308 : TyR Tryz.prog tab 308 yt308 := TyR.one (b := 8) rfl (by kernel_rfl) rfl (by decide) rfl rfl rfl Tryz.zeroValue308
theorem tr309 : TyR Tryz.prog tab 309 yt309 := TyR.one (b := 8) rfl (by kernel_rfl) rfl (by decide) rfl rfl rfl Tryz.zeroValue309
theorem tr310 : TyR Tryz.prog tab 310 yt310 := TyR.one (b := 8) rfl (by kernel_rfl) rfl (by decide) rfl rfl rfl Tryz.zeroValue310
theorem tr311 : TyR Tryz.prog tab 311 yt311 := TyR.one (b := 8) rfl (by kernel_rfl) rfl (by decide) rfl rfl rfl Tryz.zeroValue311
theorem tr312 : TyR Tryz.prog tab 312 yt312 := TyR.one (b := 8) rfl (by kernel_rfl) rfl (by decide) rfl rfl rfl Tryz.zeroValue312
theorem tr313 : TyR Tryz.prog tab 313 yt313 := TyR.one (b := 8) rfl (by kernel_rfl) rfl (by decide) rfl rfl rfl Tryz.zeroValue313
theorem tr314 : TyR Tryz.prog tab 314 yt314 := TyR.one (b := 8) rfl (by kernel_rfl) rfl (by decide) rfl rfl rfl Tryz.zeroValue314
theorem tr315 : TyR Tryz.prog tab 315 yt315 := TyR.one (b := 8) rfl (by kernel_rfl) rfl (by decide) rfl rfl rfl Tryz.zeroValue315
theorem tr316 : TyR Tryz.prog tab 316 yt316 := TyR.one (b := 8) rfl (by kernel_rfl) rfl (by decide) rfl rfl rfl Tryz.zeroValue316
theorem tr317 : TyR Tryz.prog tab 317 yt317 := TyR.one (b := 8) rfl (by kernel_rfl) rfl (by decide) rfl rfl rfl Tryz.zeroValue317
theorem tr318 : TyR Tryz.prog tab 318 yt318 := TyR.one (b := 8) rfl (by kernel_rfl) rfl (by decide) rfl rfl rfl Tryz.zeroValue318
theorem tr319 : TyR Tryz.prog tab 319 yt319 := TyR.one (b := 8) rfl (by kernel_rfl) rfl (by decide) rfl rfl rfl Tryz.zeroValue319
theorem tr320 : TyR Tryz.prog tab 320 yt320 := TyR.one (b := 8) rfl (by kernel_rfl) rfl (by decide) rfl rfl rfl Tryz.zeroValue320
theorem tr321 : TyR Tryz.prog tab 321 yt321 := TyR.one (b := 8) rfl (by kernel_rfl) rfl (by decide) rfl rfl rfl Tryz.zeroValue321
theorem tr322 : TyR Tryz.prog tab 322 yt322 := TyR.one (b := 8) rfl (by kernel_rfl) rfl (by decide) rfl rfl rfl Tryz.zeroValue322
theorem tr323 : TyR Tryz.prog tab 323 yt323 := TyR.one (b := 8) rfl (by kernel_rfl) rfl (by decide) rfl rfl rfl Tryz.zeroValue323
theorem tr324 : TyR Tryz.prog tab 324 yt324 := TyR.one (b := 8) rfl (by kernel_rfl) rfl (by decide) rfl rfl rfl Tryz.zeroValue324
theorem tr325 : TyR Tryz.prog tab 325 yt325 := TyR.one (b := 8) rfl (by kernel_rfl) rfl (by decide) rfl rfl rfl Tryz.zeroValue325
theorem tr326 : TyR Tryz.prog tab 326 yt326 := TyR.one (b := 8) rfl (by kernel_rfl) rfl (by decide) rfl rfl rfl Tryz.zeroValue326
theorem tr327 : TyR Tryz.prog tab 327 yt327 := TyR.one (b := 8) rfl (by kernel_rfl) rfl (by decide) rfl rfl rfl Tryz.zeroValue327
theorem tr328 : TyR Tryz.prog tab 328 yt328 := TyR.one (b := 8) rfl (by kernel_rfl) rfl (by decide) rfl rfl rfl Tryz.zeroValue328
theorem tr329 : TyR Tryz.prog tab 329 yt329 := TyR.one (b := 8) rfl (by kernel_rfl) rfl (by decide) rfl rfl rfl Tryz.zeroValue329
theorem tr330 : TyR Tryz.prog tab 330 yt330 := TyR.one (b := 8) rfl (by kernel_rfl) rfl (by decide) rfl rfl rfl Tryz.zeroValue330
theorem tr331 : TyR Tryz.prog tab 331 yt331 := TyR.one (b := 8) rfl (by kernel_rfl) rfl (by decide) rfl rfl rfl Tryz.zeroValue331
theorem tr332 : TyR Tryz.prog tab 332 yt332 := TyR.one (b := 8) rfl (by kernel_rfl) rfl (by decide) rfl rfl rfl Tryz.zeroValue332
theorem tr333 : TyR Tryz.prog tab 333 yt333 := TyR.one (b := 8) rfl (by kernel_rfl) rfl (by decide) rfl rfl rfl Tryz.zeroValue333
theorem tr334 : TyR Tryz.prog tab 334 yt334 := TyR.one (b := 8) rfl (by kernel_rfl) rfl (by decide) rfl rfl rfl Tryz.zeroValue334
theorem tr335 : TyR Tryz.prog tab 335 yt335 := TyR.one (b := 8) rfl (by kernel_rfl) rfl (by decide) rfl rfl rfl Tryz.zeroValue335
theorem tr336 : TyR Tryz.prog tab 336 yt336 := TyR.one (b := 8) rfl (by kernel_rfl) rfl (by decide) rfl rfl rfl Tryz.zeroValue336
theorem tr337 : TyR Tryz.prog tab 337 yt337 := TyR.one (b := 8) rfl (by kernel_rfl) rfl (by decide) rfl rfl rfl Tryz.zeroValue337
theorem tr338 : TyR Tryz.prog tab 338 yt338 := TyR.one (b := 8) rfl (by kernel_rfl) rfl (by decide) rfl rfl rfl Tryz.zeroValue338
theorem tr339 : TyR Tryz.prog tab 339 yt339 := TyR.one (b := 8) rfl (by kernel_rfl) rfl (by decide) rfl rfl rfl Tryz.zeroValue339
theorem tr340 : TyR Tryz.prog tab 340 yt340 := TyR.one (b := 8) rfl (by kernel_rfl) rfl (by decide) rfl rfl rfl Tryz.zeroValue340
theorem tr341 : TyR Tryz.prog tab 341 yt341 := TyR.agg (b := 40) (zero := ty341.zero) (by kernel_rfl) (by kernel_rfl) (by decide) rfl (fun fs h => by cases h; kernel_rfl) (fun n et h => by cases h) (fun h => by cases h) rfl Tryz.zeroValue341
theorem tr342 : TyR Tryz.prog tab 342 yt342 := TyR.agg (b := 40) (zero := ty342.zero) (by kernel_rfl) (by kernel_rfl) (by decide) rfl (fun fs h => by cases h; kernel_rfl) (fun n et h => by cases h) (fun h => by cases h) rfl Tryz.zeroValue342
theorem tr343 : TyR Tryz.prog tab 343 yt343 := TyR.agg (b := 0) (zero := ty343.zero) (by kernel_rfl) (by kernel_rfl) (by decide) rfl (fun fs h => by cases h) (fun n et h => by cases h; exact ⟨ty16, by kernel_rfl⟩) (fun h => by cases h) rfl Tryz.zeroValue343
theorem tr344 : TyR Tryz.prog tab 344 yt344 := TyR.agg (b := 0) (zero := ty344.zero) (by kernel_rfl) (by kernel_rfl) (by decide) rfl (fun fs h => by cases h; kernel_rfl) (fun n et h => by cases h) (fun h => by cases h) rfl Tryz.zeroValue344
theorem tr345 : TyR Tryz.prog tab 345 yt345 := TyR.agg (b := 0) (zero := ty345.zero) (by kernel_rfl) (by kernel_rfl) (by decide) rfl (fun fs h => by cases h; kernel_rfl) (fun n et h => by cases h) (fun h => by cases h) rfl Tryz.zeroValue345
theorem tr346 : TyR Tryz.prog tab 346 yt346 := TyR.one (b := 1) rfl (by kernel_rfl) rfl (by decide) rfl rfl rfl Tryz.zeroValue346
theorem tr347 : TyR Tryz.prog tab 347 yt347 := TyR.one (b := 1) rfl (by kernel_rfl) rfl (by decide) rfl rfl rfl Tryz.zeroValue347
theorem tr348 : TyR Tryz.prog tab 348 yt348 := TyR.one (b := 8) rfl (by kernel_rfl) rfl (by decide) rfl rfl rfl Tryz.zeroValue348
theorem tr349 : TyR Tryz.prog tab 349 yt349 := TyR.one (b := 8) rfl (by kernel_rfl) rfl (by decide) rfl rfl rfl Tryz.zeroValue349
theorem tr350 : TyR Tryz.prog tab 350 yt350 := TyR.one (b := 4) rfl (by kernel_rfl) rfl (by decide) rfl rfl rfl Tryz.zeroValue350
theorem tr351 : TyR Tryz.prog tab 351 yt351 := TyR.one (b := 4) rfl (by kernel_rfl) rfl (by decide) rfl rfl rfl Tryz.zeroValue351
theorem tr352 : TyR Tryz.prog tab 352 yt352 := TyR.agg (b := 48) (zero := ty352.zero) (by kernel_rfl) (by kernel_rfl) (by decide) rfl (fun fs h => by cases h; kernel_rfl) (fun n et h => by cases h) (fun h => by cases h) rfl Tryz.zeroValue352
theorem tr353 : TyR Tryz.prog tab 353 yt353 := TyR.agg (b := 48) (zero := ty353.zero) (by kernel_rfl) (by kernel_rfl) (by decide) rfl (fun fs h => by cases h; kernel_rfl) (fun n et h => by cases h) (fun h => by cases h) rfl Tryz.zeroValue353
theorem tyT_ok : T.All (TyR Tryz.prog tab) tyT := ⟨trivial, ⟨tr1, ⟨tr3, ⟨tr7, ⟨tr15, ⟨tr31, ⟨tr63, ⟨tr127, ⟨tr255, trivial, trivial⟩, trivial⟩, ⟨tr191, ⟨tr319, trivial, trivial⟩, trivial⟩⟩, ⟨tr95, ⟨tr159, ⟨tr287, trivial, trivial⟩, trivial⟩, ⟨tr223, ⟨tr351, trivial, trivial⟩, trivial⟩⟩⟩, ⟨tr47, ⟨tr79, ⟨tr143, ⟨tr271, trivial, trivial⟩, trivial⟩, ⟨tr207, ⟨tr335, trivial, trivial⟩, trivial⟩⟩, ⟨tr111, ⟨tr175, ⟨tr303, trivial, trivial⟩, trivial⟩, ⟨tr239, trivial, trivial⟩⟩⟩⟩, ⟨tr23, ⟨tr39, ⟨tr71, ⟨tr135, ⟨tr263, trivial, trivial⟩, trivial⟩, ⟨tr199, ⟨tr327, trivial, trivial⟩, trivial⟩⟩, ⟨tr103, ⟨tr167, ⟨tr295, trivial, trivial⟩, trivial⟩, ⟨tr231, trivial, trivial⟩⟩⟩, ⟨tr55, ⟨tr87, ⟨tr151, ⟨tr279, trivial, trivial⟩, trivial⟩, ⟨tr215, ⟨tr343, trivial, trivial⟩, trivial⟩⟩, ⟨tr119, ⟨trivial, ⟨tr311, trivial, trivial⟩, trivial⟩, ⟨tr247, trivial, trivial⟩⟩⟩⟩⟩, ⟨tr11, ⟨tr19, ⟨tr35, ⟨tr67, ⟨tr131, trivial, trivial⟩, ⟨tr195, ⟨tr323, trivial, trivial⟩, trivial⟩⟩, ⟨tr99, ⟨tr163, ⟨tr291, trivial, trivial⟩, trivial⟩, ⟨tr227, trivial, trivial⟩⟩⟩, ⟨tr51, ⟨tr83, ⟨tr147, ⟨tr275, trivial, trivial⟩, trivial⟩, ⟨tr211, ⟨tr339, trivial, trivial⟩, trivial⟩⟩, ⟨tr115, ⟨trivial, ⟨tr307, trivial, trivial⟩, trivial⟩, ⟨tr243, trivial, trivial⟩⟩⟩⟩, ⟨tr27, ⟨tr43, ⟨tr75, ⟨tr139, ⟨tr267, trivial, trivial⟩, trivial⟩, ⟨tr203, ⟨tr331, trivial, trivial⟩, trivial⟩⟩, ⟨tr107, ⟨tr171, ⟨tr299, trivial, trivial⟩, trivial⟩, ⟨tr235, trivial, trivial⟩⟩⟩, ⟨tr59, ⟨tr91, ⟨tr155, ⟨tr283, trivial, trivial⟩, trivial⟩, ⟨tr219, ⟨tr347, trivial, trivial⟩, trivial⟩⟩, ⟨tr123, ⟨tr187, ⟨tr315, trivial, trivial⟩, trivial⟩, ⟨tr251, trivial, trivial⟩⟩⟩⟩⟩⟩, ⟨tr5, ⟨tr9, ⟨tr17, ⟨tr33, ⟨tr65, ⟨tr129, ⟨tr257, trivial, trivial⟩, trivial⟩, ⟨tr193, ⟨tr321, trivial, trivial⟩, trivial⟩⟩, ⟨tr97, ⟨tr161, ⟨tr289, trivial, trivial⟩, trivial⟩, ⟨tr225, ⟨tr353, trivial, trivial⟩, trivial⟩⟩⟩, ⟨tr49, ⟨tr81, ⟨tr145, ⟨tr273, trivial, trivial⟩, trivial⟩, ⟨tr209, ⟨tr337, trivial, trivial⟩, trivial⟩⟩, ⟨tr113, ⟨tr177, ⟨tr305, trivial, trivial⟩, trivial⟩, ⟨tr241, trivial, trivial⟩⟩⟩⟩, ⟨tr25, ⟨trivial, ⟨tr73, ⟨tr137, ⟨tr265, trivial, trivial⟩, trivial⟩, ⟨tr201, ⟨tr329, trivial, trivial⟩, trivial⟩⟩, ⟨tr105, ⟨tr169, ⟨tr297, trivial, trivial⟩, trivial⟩, ⟨tr233, trivial, trivial⟩⟩⟩, ⟨tr57, ⟨tr89, ⟨tr153, trivial, trivial⟩, ⟨tr217, ⟨tr345, trivial, trivial⟩, trivial⟩⟩, ⟨tr121, ⟨trivial, ⟨tr313, trivial, trivial⟩, trivial⟩, ⟨tr249, trivial, trivial⟩⟩⟩⟩⟩, ⟨tr13, ⟨tr21, ⟨tr37, ⟨tr69, ⟨tr133, ⟨tr261, trivial, trivial⟩, trivial⟩, ⟨tr197, ⟨tr325, trivial, trivial⟩, trivial⟩⟩, ⟨tr101, ⟨tr165, ⟨tr293, trivial, trivial⟩, trivial⟩, ⟨tr229, trivial, trivial⟩⟩⟩, ⟨tr53, ⟨tr85, ⟨tr149, ⟨tr277, trivial, trivial⟩, trivial⟩, ⟨tr213, ⟨tr341, trivial, trivial⟩, trivial⟩⟩, ⟨tr117, ⟨trivial, ⟨tr309, trivial, trivial⟩, trivial⟩, ⟨tr245, trivial, trivial⟩⟩⟩⟩, ⟨tr29, ⟨tr45, ⟨tr77, ⟨tr141, ⟨tr269, trivial, trivial⟩, trivial⟩, ⟨tr205, ⟨tr333, trivial, trivial⟩, trivial⟩⟩, ⟨tr109, ⟨tr173, trivial, trivial⟩, ⟨tr237, trivial, trivial⟩⟩⟩, ⟨tr61, ⟨tr93, ⟨tr157, ⟨tr285, trivial, trivial⟩, trivial⟩, ⟨tr221, ⟨tr349, trivial, trivial⟩, trivial⟩⟩, ⟨trivial, ⟨tr189, ⟨tr317, trivial, trivial⟩, trivial⟩, ⟨tr253, trivial, trivial⟩⟩⟩⟩⟩⟩⟩, ⟨tr2, ⟨tr4, ⟨tr8, ⟨tr16, ⟨tr32, ⟨tr64, ⟨tr128, ⟨tr256, trivial, trivial⟩, trivial⟩, ⟨tr192, ⟨tr320, trivial, trivial⟩, trivial⟩⟩, ⟨tr96, ⟨tr160, ⟨tr288, trivial, trivial⟩, trivial⟩, ⟨tr224, ⟨tr352, trivial, trivial⟩, trivial⟩⟩⟩, ⟨tr48, ⟨tr80, ⟨tr144, ⟨tr272, trivial, trivial⟩, trivial⟩, ⟨tr208, ⟨tr336, trivial, trivial⟩, trivial⟩⟩, ⟨tr112, ⟨tr176, ⟨tr304, trivial, trivial⟩, trivial⟩, ⟨tr240, trivial, trivial⟩⟩⟩⟩, ⟨tr24, ⟨tr40, ⟨tr72, ⟨tr136, trivial, trivial⟩, ⟨tr200, ⟨tr328, trivial, trivial⟩, trivial⟩⟩, ⟨tr104, ⟨tr168, ⟨tr296, trivial, trivial⟩, trivial⟩, ⟨tr232, trivial, trivial⟩⟩⟩, ⟨tr56, ⟨trivial, ⟨tr152, ⟨tr280, trivial, trivial⟩, trivial⟩, ⟨tr216, ⟨tr344, trivial, trivial⟩, trivial⟩⟩, ⟨tr120, ⟨tr184, ⟨tr312, trivial, trivial⟩, trivial⟩, ⟨tr248, trivial, trivial⟩⟩⟩⟩⟩, ⟨tr12, ⟨tr20, ⟨trivial, ⟨tr68, ⟨tr132, ⟨tr260, trivial, trivial⟩, trivial⟩, ⟨tr196, ⟨tr324, trivial, trivial⟩, trivial⟩⟩, ⟨tr100, ⟨tr164, ⟨tr292, trivial, trivial⟩, trivial⟩, ⟨tr228, trivial, trivial⟩⟩⟩, ⟨trivial, ⟨tr84, ⟨tr148, ⟨tr276, trivial, trivial⟩, trivial⟩, ⟨tr212, ⟨tr340, trivial, trivial⟩, trivial⟩⟩, ⟨tr116, ⟨tr180, ⟨tr308, trivial, trivial⟩, trivial⟩, ⟨tr244, trivial, trivial⟩⟩⟩⟩, ⟨tr28, ⟨tr44, ⟨tr76, trivial, ⟨tr204, ⟨tr332, trivial, trivial⟩, trivial⟩⟩, ⟨tr108, ⟨trivial, ⟨tr300, trivial, trivial⟩, trivial⟩, ⟨tr236, trivial, trivial⟩⟩⟩, ⟨tr60, ⟨trivial, ⟨tr156, trivial, trivial⟩, ⟨tr220, ⟨tr348, trivial, trivial⟩, trivial⟩⟩, ⟨tr124, ⟨tr188, ⟨tr316, trivial, trivial⟩, trivial⟩, ⟨tr252, trivial, trivial⟩⟩⟩⟩⟩⟩, ⟨tr6, ⟨tr10, ⟨tr18, ⟨tr34, ⟨tr66, ⟨tr130, ⟨tr258, trivial, trivial⟩, trivial⟩, ⟨tr194, ⟨tr322, trivial, trivial⟩, trivial⟩⟩, ⟨tr98, ⟨tr162, trivial, trivial⟩, ⟨tr226, trivial, trivial⟩⟩⟩, ⟨tr50, ⟨tr82, ⟨tr146, ⟨tr274, trivial, trivial⟩, trivial⟩, ⟨tr210, ⟨tr338, trivial, trivial⟩, trivial⟩⟩, ⟨tr114, ⟨tr178, ⟨tr306, trivial, trivial⟩, trivial⟩, ⟨tr242, trivial, trivial⟩⟩⟩⟩, ⟨tr26, ⟨tr42, ⟨tr74, ⟨trivial, ⟨tr266, trivial, trivial⟩, trivial⟩, ⟨tr202, ⟨tr330, trivial, trivial⟩, trivial⟩⟩, ⟨tr106, ⟨tr170, ⟨tr298, trivial, trivial⟩, trivial⟩, ⟨tr234, trivial, trivial⟩⟩⟩, ⟨tr58, ⟨trivial, ⟨tr154, ⟨tr282, trivial, trivial⟩, trivial⟩, ⟨tr218, ⟨tr346, trivial, trivial⟩, trivial⟩⟩, ⟨tr122, ⟨tr186, ⟨tr314, trivial, trivial⟩, trivial⟩, ⟨tr250, trivial, trivial⟩⟩⟩⟩⟩, ⟨tr14, ⟨tr22, ⟨trivial, ⟨tr70, ⟨tr134, ⟨tr262, trivial, trivial⟩, trivial⟩, ⟨trivial, ⟨tr326, trivial, trivial⟩, trivial⟩⟩, ⟨tr102, ⟨tr166, ⟨tr294, trivial, trivial⟩, trivial⟩, ⟨tr230, trivial, trivial⟩⟩⟩, ⟨tr54, ⟨tr86, ⟨tr150, ⟨tr278, trivial, trivial⟩, trivial⟩, ⟨trivial, ⟨tr342, trivial, trivial⟩, trivial⟩⟩, ⟨tr118, ⟨tr182, ⟨tr310, trivial, trivial⟩, trivial⟩, ⟨tr246, trivial, trivial⟩⟩⟩⟩, ⟨tr30, ⟨tr46, ⟨tr78, trivial, ⟨tr206, ⟨tr334, trivial, trivial⟩, trivial⟩⟩, ⟨tr110, ⟨tr174, ⟨tr302, trivial, trivial⟩, trivial⟩, ⟨tr238, trivial, trivial⟩⟩⟩, ⟨tr62, ⟨tr94, ⟨tr158, ⟨tr286, trivial, trivial⟩, trivial⟩, ⟨tr222, ⟨tr350, trivial, trivial⟩, trivial⟩⟩, ⟨tr126, ⟨tr190, ⟨tr318, trivial, trivial⟩, trivial⟩, ⟨tr254, trivial, trivial⟩⟩⟩⟩⟩⟩⟩⟩
end Go.Proofs.YtbingohaiippeaaGreatDoor
