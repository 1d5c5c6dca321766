/- The lifted functions. -/
import Derived.Test.YtpigkempbnmioaaDoorLtK
